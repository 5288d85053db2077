/- Tiles of the program: whether two rhythms fill the circle. -/
import Derived.Test.YtknlablmkcabkaaDoorPg
import Derived.Test.YtknlablmkcabkaaDoorPi
namespace Go.Proofs.YtknlablmkcabkaaDoor.Pa
open Go.RowKit QCanonConditions Til Go.Proofs.YtknlablmkcabkaaDoorW.PrintWords Go.Proofs.YtknlablmkcabkaaDoorW.PrintLast Go.Proofs.YtknlablmkcabkaaDoorW.PrintMore
set_option linter.unusedVariables false
set_option linter.unusedSimpArgs false

theorem shl_all : (List.range 25).all (fun n => wrap64 (2 ^ n) == ((2 ^ n : Nat) : Int) && shl .i64 1 (n : Int) == ((2 ^ n : Nat) : Int)) = true := by decide +kernel
theorem shl_at (n : Nat) (h : n ≤ 24) : wrap64 (2 ^ n) = ((2 ^ n : Nat) : Int) ∧ shl .i64 1 (n : Int) = ((2 ^ n : Nat) : Int) := by
  have := List.all_eq_true.mp shl_all n (List.mem_range.mpr (by omega))
  simpa using this
theorem p24 {n a : Nat} (hn : n ≤ 24) (ha : a < 2 ^ n) : a < 16777216 := Nat.lt_of_lt_of_le ha (Nat.pow_le_pow_right (by decide) hn)
theorem and_nat (a b : Nat) (ha : a < 9223372036854775808) (hb : b < 9223372036854775808) : Go.bits .and .i64 (a : Int) (b : Int) = ((a &&& b : Nat) : Int) := (bits_nat .i64 63 (by decide) (fun n h0 h1 => by rw [IntKind.wrap_i64]; omega) a b (by omega) (by omega)).1
theorem or_nat (a b : Nat) (ha : a < 9223372036854775808) (hb : b < 9223372036854775808) : Go.bits .or .i64 (a : Int) (b : Int) = ((a ||| b : Nat) : Int) := (bits_nat .i64 63 (by decide) (fun n h0 h1 => by rw [IntKind.wrap_i64]; omega) a b (by omega) (by omega)).2
theorem shl_nat (a k : Nat) (ha : a < 16777216) (hk : k ≤ 24) : shl .i64 (a : Int) (k : Int) = ((a <<< k : Nat) : Int) ∧ a <<< k < 281474976710656 := by
  have h1 : a <<< k = a * 2 ^ k := Nat.shiftLeft_eq a k
  have h2 : (2 : Nat) ^ k ≤ 2 ^ 24 := Nat.pow_le_pow_right (by decide) hk
  have h3 : a * 2 ^ k ≤ 16777215 * 2 ^ 24 := Nat.mul_le_mul (by omega) h2
  constructor
  · rw [h1]
    unfold shl
    rw [Int.toNat_natCast, Nat.min_eq_left (show k ≤ IntKind.i64.bits from by show k ≤ 64; omega), IntKind.wrap_i64]
    have e : ((a : Int) * 2 ^ k) = ((a * 2 ^ k : Nat) : Int) := by simp
    rw [e]
    omega
  · omega
theorem shr_nat (a k : Nat) (hk : k ≤ 24) : shr .i64 (a : Int) (k : Int) = ((a >>> k : Nat) : Int) := by
  unfold shr
  rw [Int.toNat_natCast, Nat.min_eq_left (show k ≤ IntKind.i64.bits from by show k ≤ 64; omega), Nat.shiftRight_eq_div_pow]
  simp
theorem all_eq (n : Nat) (hn : n ≤ 24) : canon_circle_all.f (n : Int) = some ((2 ^ n - 1 : Nat) : Int) := by
  have h2 : (2 : Nat) ^ n ≤ 2 ^ 24 := Nat.pow_le_pow_right (by decide) hn
  have h3 := Nat.two_pow_pos n
  unfold canon_circle_all.f
  rw [if_pos (by omega), (shl_at n hn).2, w64 _ (by omega) (by omega)]
  congr 1
  omega
theorem move_eq (n a k : Nat) (hn : n ≤ 24) (ha : a < 2 ^ n) (hk : k ≤ n) : canon_circle_move.f (n : Int) (a : Int) (k : Int) = some ((rot n a k : Nat) : Int) := by
  have ha' := p24 hn ha
  have h2 : (2 : Nat) ^ n ≤ 2 ^ 24 := Nat.pow_le_pow_right (by decide) hn
  unfold canon_circle_move.f
  have e : wrap64 ((n : Int) - (k : Int)) = ((n - k : Nat) : Int) := by rw [w64 _ (by omega) (by omega)]; omega
  have h5 : a >>> (n - k) ≤ a := by rw [Nat.shiftRight_eq_div_pow]; exact Nat.div_le_self _ _
  obtain ⟨h3, h4⟩ := shl_nat a k ha' (by omega)
  rw [if_pos (by omega), e, if_pos (by omega), all_eq n hn, Option.bind_some, h3, shr_nat a (n - k) (by omega), or_nat _ _ (by omega) (by omega), and_nat _ _ ?_ (by omega)]
  · rfl
  · have : a <<< k ||| a >>> (n - k) < 2 ^ 48 := Nat.or_lt_two_pow (by omega) (by omega)
    omega

/-- The union of the moves by the first m beats of b. -/
def orU (n a b : Nat) : Nat → Nat
  | 0 => 0
  | m + 1 => if b.testBit m = true then orU n a b m ||| rot n a m else orU n a b m
theorem orU_lt (n a b : Nat) : ∀ m, orU n a b m < 2 ^ n := by
  intro m
  induction m with
  | zero => exact Nat.two_pow_pos n
  | succ m ih =>
    rw [orU]
    split
    · exact Nat.or_lt_two_pow ih (rot_lt n a m)
    · exact ih
theorem orU_bit (n a b : Nat) (ha : a < 2 ^ n) (z : Nat) (hz : z < n) : ∀ m, m ≤ n → ((orU n a b m).testBit z = true ↔ ∃ y, y < m ∧ b.testBit y = true ∧ a.testBit ((z + n - y) % n) = true) := by
  intro m
  induction m with
  | zero => intro _; simp [orU]
  | succ m ih =>
    intro hm
    rw [orU]
    by_cases hb : b.testBit m = true
    · rw [if_pos hb, Nat.testBit_or, Bool.or_eq_true, ih (by omega), testBit_rot ha (by omega) hz]
      constructor
      · rintro (⟨y, h1, h2, h3⟩ | h)
        · exact ⟨y, by omega, h2, h3⟩
        · exact ⟨m, by omega, hb, h⟩
      · rintro ⟨y, h1, h2, h3⟩
        by_cases e : y = m
        · subst e; exact .inr h3
        · exact .inl ⟨y, by omega, h2, h3⟩
    · rw [if_neg hb, ih (by omega)]
      constructor
      · rintro ⟨y, h1, h2, h3⟩; exact ⟨y, by omega, h2, h3⟩
      · rintro ⟨y, h1, h2, h3⟩
        refine ⟨y, ?_, h2, h3⟩
        rcases Nat.lt_or_ge y m with h | h
        · exact h
        · obtain rfl : y = m := by omega
          exact absurd h2 hb
theorem back_beat {n x y : Nat} (hx : x < n) (hy : y < n) : ((x + y) % n + n - y) % n = x := by
  rcases Nat.lt_or_ge (x + y) n with h1 | h1
  · rw [Nat.mod_eq_of_lt h1, show x + y + n - y = x + n from by omega, Nat.add_mod_right, Nat.mod_eq_of_lt hx]
  · rw [Nat.mod_eq_sub_mod h1, Nat.mod_eq_of_lt (show x + y - n < n by omega), show x + y - n + n - y = x from by omega, Nat.mod_eq_of_lt hx]
theorem orU_full (n a b : Nat) (hn : 0 < n) (ha : a < 2 ^ n) : orU n a b n = 2 ^ n - 1 ↔ ∀ z, z < n → z ∈ sums n a b := by
  constructor
  · intro h z hz
    have h1 : (orU n a b n).testBit z = true := by rw [h, full_bit, decide_eq_true hz]
    obtain ⟨y, hy, hb, ha'⟩ := (orU_bit n a b ha z hz n (Nat.le_refl _)).mp h1
    refine mem_sums.mpr ⟨(z + n - y) % n, mem_bitsL.mpr ⟨Nat.mod_lt _ hn, ha'⟩, y, mem_bitsL.mpr ⟨hy, hb⟩, ?_⟩
    rw [Nat.mod_add_mod, show z + n - y + y = z + n from by omega, Nat.add_mod_right, Nat.mod_eq_of_lt hz]
  · intro h
    apply Nat.eq_of_testBit_eq
    intro z
    rw [full_bit]
    by_cases hz : z < n
    · rw [decide_eq_true hz, orU_bit n a b ha z hz n (Nat.le_refl _)]
      obtain ⟨x, hx, y, hy, e⟩ := mem_sums.mp (h z hz)
      have h1 := mem_bitsL.mp hx
      have h2 := mem_bitsL.mp hy
      refine ⟨y, h2.1, h2.2, ?_⟩
      rw [← e, back_beat h1.1 h2.1]
      exact h1.2
    · rw [decide_eq_false hz, testBit_big (orU_lt n a b n) (by omega)]

theorem tiles_l0 (n a b : Nat) (hn : n ≤ 24) (ha : a < 2 ^ n) (hb : b < 2 ^ n) : ∀ m j, j + m = n → Tot (fun k => canon_circle_tiles.l0 k (n : Int) (a : Int) (b : Int) ((orU n a b j : Nat) : Int) (n : Int) (j : Int)) (((orU n a b n : Nat) : Int) == ((2 ^ n - 1 : Nat) : Int)) := by
  have hp : ∀ j, orU n a b j < 16777216 := fun j => p24 hn (orU_lt n a b j)
  intro m
  induction m with
  | zero =>
    intro j hj
    obtain rfl : j = n := by omega
    refine ⟨1, fun k hk => ?_⟩
    obtain ⟨k, rfl⟩ : ∃ k', k = k' + 1 := ⟨k - 1, by omega⟩
    show canon_circle_tiles.l0 (k + 1) _ _ _ _ _ _ = _
    rw [canon_circle_tiles.l0, if_neg (by omega), all_eq j hn, Option.bind_some]
  | succ m ih =>
    intro j hj
    refine (ih (j + 1) (by omega)).succ (fun k => ?_)
    rw [canon_circle_tiles.l0, if_pos (by omega), if_pos (by omega), bit_int b j (p24 hn hb) (by omega), w64 ((j : Int) + 1) (by omega) (by omega), orU]
    by_cases h : b.testBit j = true
    · rw [if_pos h, h, if_pos (show ((true.toNat : Nat) : Int) = 1 from rfl), move_eq n a j hn ha (by omega), Option.bind_some, or_nat _ _ (by have := hp j; omega) (by have := p24 hn (rot_lt n a j); omega)]
      rfl
    · rw [if_neg h, Bool.not_eq_true _ |>.mp h, if_neg (by decide)]
      rfl
theorem pop_bits (n a : Nat) : pop n a = (bitsL n a).length := by
  have main : ∀ m j, (List.filter (fun x => a.testBit x) (List.range' j m)).length = pop m (a / 2 ^ j) := by
    intro m
    induction m with
    | zero => intro j; rfl
    | succ m ih =>
      intro j
      rw [List.range'_succ, List.filter_cons, pop]
      have e := ih (j + 1)
      rw [Nat.pow_succ, ← Nat.div_div_eq_div_mul] at e
      have hb := Nat.testBit_eq_decide_div_mod_eq (x := a) (i := j)
      rcases Nat.mod_two_eq_zero_or_one (a / 2 ^ j) with h | h
      · rw [hb, h, if_neg (by decide), e, Nat.zero_add]
      · rw [hb, h, if_pos (by decide), List.length_cons, e]; omega
  have := main n 0
  rw [Nat.pow_zero, Nat.div_one, ← List.range_eq_range'] at this
  exact this.symm
theorem pop_more (n a : Nat) (ha : a < 2 ^ n) : ∀ m, n ≤ m → pop m a = pop n a := by
  intro m hm
  obtain ⟨j, rfl⟩ : ∃ j, m = n + j := ⟨m - n, by omega⟩
  rw [pop_add, Nat.mod_eq_of_lt ha, Nat.div_eq_of_lt ha, pop_zero, Nat.add_zero]
theorem count_bits (n a : Nat) (hn : n ≤ 24) (ha : a < 2 ^ n) : canon_count.f (a : Int) = some (((bitsL n a).length : Nat) : Int) := by
  rw [count_pop a (p24 hn ha), pop_more n a ha 24 hn, pop_bits]
theorem bits_le (n a : Nat) : (bitsL n a).length ≤ n := by
  have := List.length_filter_le (fun x => a.testBit x) (List.range n)
  rw [List.length_range] at this
  exact this
/-- The program's answer. -/
theorem tiles_tot (n a b : Nat) (h2 : 2 ≤ n) (hn : n ≤ 24) (ha : a < 2 ^ n) (hb : b < 2 ^ n) : ∃ r, Tot (fun k => canon_circle_tiles.f k (n : Int) (a : Int) (b : Int)) r ∧ (r = true ↔ Tile n a b) := by
  have l1 := bits_le n a
  have l2 := bits_le n b
  have l3 : (bitsL n a).length * (bitsL n b).length ≤ 24 * 24 := Nat.mul_le_mul (by omega) (by omega)
  have e : wrap64 ((((bitsL n a).length : Nat) : Int) * (((bitsL n b).length : Nat) : Int)) = (((bitsL n a).length * (bitsL n b).length : Nat) : Int) := by
    rw [← Int.natCast_mul, w64 _ (by omega) (by omega)]
  by_cases h : (bitsL n a).length * (bitsL n b).length = n
  · refine ⟨((orU n a b n : Nat) : Int) == ((2 ^ n - 1 : Nat) : Int), (tiles_l0 n a b hn ha hb n 0 (by omega)).eq (fun k => ?_), ?_⟩
    · unfold canon_circle_tiles.f
      rw [count_bits n a hn ha, Option.bind_some, count_bits n b hn hb, Option.bind_some, e, if_pos (by omega)]
      rfl
    · rw [beq_iff_eq]
      constructor
      · intro h1
        exact ⟨(orU_full n a b (by omega) ha).mp (by omega), h⟩
      · intro h1
        rw [(orU_full n a b (by omega) ha).mpr h1.1]
  · refine ⟨false, Tot.of (fun k => ?_), ?_⟩
    · unfold canon_circle_tiles.f
      rw [count_bits n a hn ha, Option.bind_some, count_bits n b hn hb, Option.bind_some, e, if_neg (by omega)]
    · constructor
      · intro h1; cases h1
      · intro h1; exact absurd h1.2 h

/-! ### What is a rhythm -/
theorem valid_eq (n : Int) (l : List Int) (hl : l.length ≤ 1000) : canon_circle_valid.f n l = some (decide (2 ≤ n) && decide (n ≤ 24) && !(l.any (badR n))) := by
  unfold canon_circle_valid.f
  rw [if_pos (by omega)]
/-- Is a number a rhythm? -/
theorem rhythm_cases (n a : Int) : (sackbutref02_Rhythm.f n a = some false ∧ (decide (2 ≤ n) && decide (n ≤ 24) && !badR n a) = false) ∨
    (sackbutref02_Rhythm.f n a = some true ∧ badR n a = false ∧ ∃ m x : Nat, n = m ∧ a = x ∧ 2 ≤ m ∧ m ≤ 24 ∧ x < 2 ^ m ∧ x.testBit 0 = true) := by
  unfold sackbutref02_Rhythm.f
  by_cases h1 : n ≥ 2
  · rw [if_pos h1]
    by_cases h2 : n ≤ 24
    · obtain ⟨m, rfl⟩ : ∃ m : Nat, n = m := ⟨n.toNat, by omega⟩
      obtain ⟨e1, e2⟩ := shl_at m (by omega)
      rw [if_pos h2, e2, decide_eq_true (show (2 : Int) ≤ m from h1), decide_eq_true h2]
      unfold badR
      rw [Int.toNat_natCast, e1]
      by_cases h3 : a ≥ 0
      · rw [if_pos h3, if_pos (by omega)]
        by_cases h4 : a < ((2 ^ m : Nat) : Int)
        · obtain ⟨x, rfl⟩ : ∃ x : Nat, a = x := ⟨a.toNat, by omega⟩
          have hx : x < 2 ^ m := by omega
          rw [if_pos h4, decide_eq_false (show ¬ (x : Int) < 0 from by omega), decide_eq_false (show ¬ ((2 ^ m : Nat) : Int) ≤ x from by omega)]
          have hb : Go.bits .and .i64 (x : Int) 1 = ((x.testBit 0).toNat : Int) := by
            have := p24 (show m ≤ 24 by omega) hx
            rw [and_one _ (by omega) (by omega), Nat.testBit_zero]
            rcases Nat.mod_two_eq_zero_or_one x with h | h
            · rw [h]; show (x : Int) % 2 = 0; omega
            · rw [h]; show (x : Int) % 2 = 1; omega
          rw [hb]
          cases h5 : x.testBit 0 with
          | false => left; exact ⟨rfl, rfl⟩
          | true => right; exact ⟨rfl, rfl, m, x, rfl, rfl, by omega, by omega, hx, h5⟩
        · left
          rw [if_neg h4, decide_eq_true (show ((2 ^ m : Nat) : Int) ≤ a from by omega)]
          simp
      · left
        rw [if_neg h3, decide_eq_true (show a < 0 from by omega)]
        simp
    · left
      rw [if_neg h2, decide_eq_false h2]
      simp
  · left
    rw [if_neg h1, decide_eq_false h1]
    simp
end Go.Proofs.YtknlablmkcabkaaDoor.Pa
