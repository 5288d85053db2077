/- A rhythm multiplied by a number without a common factor fills the circle with the same one; turned it has as many partners. -/
import Derived.Test.YtknlablmkcabkaaDoorFour
import Derived.Test.YtknlablmkcabkaaDoorPk
import Derived.Test.YtknlablmkcabkaaDoorVis
namespace Go.Proofs.YtknlablmkcabkaaDoor.Pa
open Go.RowKit QCanonConditions Til Go.Proofs.YtknlablmkcabkaaDoorW.PrintWords Go.Proofs.YtknlablmkcabkaaDoorW.PrintLast Go.Proofs.YtknlablmkcabkaaDoorW.PrintMore
set_option linter.unusedVariables false
set_option linter.unusedSimpArgs false

def tim (n a m : Nat) : Nat → Nat
  | 0 => 0
  | k + 1 => if a.testBit k = true then tim n a m k ||| 1 <<< (m * k % n) else tim n a m k
theorem tim_bit (n a m z : Nat) : ∀ k, (tim n a m k).testBit z = true ↔ ∃ x, x < k ∧ a.testBit x = true ∧ m * x % n = z := by
  intro k
  induction k with
  | zero => simp [tim]
  | succ k ih =>
    rw [tim]
    by_cases h : a.testBit k = true
    · rw [if_pos h, Nat.testBit_or, Bool.or_eq_true, ih, shl_bit, decide_eq_true_eq]
      constructor
      · rintro (⟨x, h1, h2, h3⟩ | h1)
        · exact ⟨x, by omega, h2, h3⟩
        · exact ⟨k, by omega, h, h1⟩
      · rintro ⟨x, h1, h2, h3⟩
        by_cases e : x = k
        · subst e; exact .inr h3
        · exact .inl ⟨x, by omega, h2, h3⟩
    · rw [if_neg h, ih]
      constructor
      · rintro ⟨x, h1, h2, h3⟩; exact ⟨x, by omega, h2, h3⟩
      · rintro ⟨x, h1, h2, h3⟩
        refine ⟨x, ?_, h2, h3⟩
        rcases Nat.lt_or_ge x k with h4 | h4
        · exact h4
        · obtain rfl : x = k := by omega
          exact absurd h2 h
theorem tim_lt (n a m : Nat) (hn : 0 < n) : ∀ k, tim n a m k < 2 ^ n := by
  intro k
  induction k with
  | zero => exact Nat.two_pow_pos n
  | succ k ih =>
    rw [tim]
    split
    · exact Nat.or_lt_two_pow ih (by rw [Nat.one_shiftLeft]; exact Nat.pow_lt_pow_right (by decide) (Nat.mod_lt _ hn))
    · exact ih
def timF (n a m : Nat) : Nat := tim n a m n
theorem timF_zero (n a m : Nat) (hn : 0 < n) (ha0 : a.testBit 0 = true) : (timF n a m).testBit 0 = true :=
  (tim_bit n a m 0 n).mpr ⟨0, hn, ha0, by simp⟩
theorem gcd_mul_mod (n j m : Nat) (hm : Nat.gcd m n = 1) : Nat.gcd n (j * m % n) = Nat.gcd n j := by
  rw [Nat.gcd_comm, ← Nat.gcd_rec]
  exact Nat.Coprime.gcd_mul_right_cancel_right j hm
theorem tim_tile (n a b m : Nat) (h2 : 2 ≤ n) (hn : n ≤ 24) (ha : a < 2 ^ n) (hb : b < 2 ^ n) (ha0 : a.testBit 0 = true) (hb0 : b.testBit 0 = true) (hm : Nat.gcd m n = 1) (hT : Tile n a b) : Tile n (timF n a m) b := by
  have hcov := four_cover n ((bitsL n a).map (fun x => m * x % n)) (bitsL n b) h2 hn (by rw [List.length_map]; exact hT.2) (fun j hj1 hj2 => by
    obtain ⟨s, hs, hx⟩ := (four_at n h2 hn).2.2.2.2 j hj1 hj2
    rcases fill_roots n a b h2 hn ha hb ha0 hb0 hT s hs.1 with h | h
    · left
      have hg := gcd_mul_mod n j m hm
      have hj' : 1 ≤ j * m % n := by
        rcases Nat.eq_zero_or_pos (j * m % n) with e | e
        · exfalso
          rw [e, Nat.gcd_zero_right] at hg
          have := Nat.gcd_le_right n (show 0 < j by omega)
          omega
        · exact e
      obtain ⟨s', hs', hx'⟩ := (four_at n h2 hn).2.2.2.2 (j * m % n) hj' (Nat.mod_lt _ (by omega))
      have e : s' = s := by rw [hs'.2, hs.2, hg]
      subst e
      have h0 := hat_zero n a s' (j * m % n) h2 hn ha hs'.1 hx' h
      have e2 : S ((bitsL n a).map (fun x => m * x % n)) (fun x => ww n ((j * x) % n)) = S (bitsL n a) (fun x => ww n ((j * m % n * x) % n)) := by
        have : ∀ l : List Nat, S (l.map (fun x => m * x % n)) (fun x => ww n ((j * x) % n)) = S l (fun x => ww n ((j * m % n * x) % n)) := by
          intro l
          induction l with
          | nil => rfl
          | cons x l ih =>
            rw [List.map_cons, S_cons, S_cons, ih]
            congr 2
            rw [Nat.mul_mod_mod, Nat.mod_mul_mod, Nat.mul_assoc]
        exact this _
      rw [e2]
      exact h0
    · exact .inr (hat_zero n b s j h2 hn hb hs.1 hx h))
  have hmem : ∀ x ∈ (bitsL n a).map (fun x => m * x % n), x ∈ bitsL n (timF n a m) := by
    intro x hx
    obtain ⟨y, hy, rfl⟩ := List.mem_map.mp hx
    have := mem_bitsL.mp hy
    exact mem_bitsL.mpr ⟨Nat.mod_lt _ (by omega), (tim_bit n a m _ n).mpr ⟨y, this.1, this.2, rfl⟩⟩
  have hc : ∀ z, z < n → z ∈ sums n (timF n a m) b := by
    intro z hz
    obtain ⟨x, hx, y, hy, e⟩ := hcov z hz
    exact mem_sums.mpr ⟨x, hmem x hx, y, hy, e⟩
  refine ⟨hc, ?_⟩
  have l1 := len_le (l := bitsL n (timF n a m)) (m := (bitsL n a).map (fun x => m * x % n)) (nodup_bitsL _ _) (fun x hx => by
    obtain ⟨y, h3, h4, h5⟩ := (tim_bit n a m x n).mp (mem_bitsL.mp hx).2
    exact List.mem_map.mpr ⟨y, mem_bitsL.mpr ⟨h3, h4⟩, h5⟩)
  have l2 := len_le (l := List.range n) (m := sums n (timF n a m) b) List.nodup_range (fun x hx => hc x (List.mem_range.mp hx))
  rw [List.length_map] at l1
  rw [sums_length, List.length_range] at l2
  have l3 := Nat.mul_le_mul_right (bitsL n b).length l1
  rw [hT.2] at l3
  omega

/-! ### Turned -/
theorem neg_mul (n x : Nat) (hx : x < n) : (n - 1) * x % n = if x = 0 then 0 else n - x := by
  split
  · rename_i h; subst h; simp
  · rename_i h
    obtain ⟨y, rfl⟩ : ∃ y, x = y + 1 := ⟨x - 1, by omega⟩
    obtain ⟨m, rfl⟩ : ∃ m, n = m + 1 := ⟨n - 1, by omega⟩
    have e : (m + 1 - 1) * (y + 1) = (m + 1) * y + (m + 1 - (y + 1)) := by
      rw [Nat.add_sub_cancel, Nat.mul_add, Nat.add_mul]
      omega
    rw [e, Nat.mul_add_mod, Nat.mod_eq_of_lt (by omega)]
theorem neg_neg (n b : Nat) (hn : 0 < n) (hb : b < 2 ^ n) : timF n (timF n b (n - 1)) (n - 1) = b := by
  apply Nat.eq_of_testBit_eq
  intro z
  have key : (timF n (timF n b (n - 1)) (n - 1)).testBit z = true ↔ b.testBit z = true := by
    unfold timF
    rw [tim_bit]
    constructor
    · rintro ⟨x, h1, h2, h3⟩
      obtain ⟨y, h4, h5, h6⟩ := (tim_bit _ _ _ _ _).mp h2
      rw [neg_mul n x h1] at h3
      rw [neg_mul n y h4] at h6
      have : y = z := by
        split at h6 <;> split at h3 <;> omega
      rw [← this]; exact h5
    · intro h
      have hz : z < n := by
        rcases Nat.lt_or_ge z n with h1 | h1
        · exact h1
        · rw [testBit_big hb h1] at h; cases h
      refine ⟨(n - 1) * z % n, Nat.mod_lt _ hn, (tim_bit _ _ _ _ _).mpr ⟨z, hz, h, rfl⟩, ?_⟩
      rw [neg_mul n _ (Nat.mod_lt _ hn), neg_mul n z hz]
      by_cases hz0 : z = 0
      · simp [hz0]
      · rw [if_neg hz0, if_neg (by omega)]
        omega
  cases h1 : (timF n (timF n b (n - 1)) (n - 1)).testBit z <;> cases h2 : b.testBit z <;> simp_all
theorem gcd_pred (n : Nat) (h2 : 2 ≤ n) : Nat.gcd (n - 1) n = 1 := by
  obtain ⟨m, rfl⟩ : ∃ m, n = m + 1 := ⟨n - 1, by omega⟩
  simp
theorem neg_tile (n a b : Nat) (h2 : 2 ≤ n) (hn : n ≤ 24) (ha : a < 2 ^ n) (hb : b < 2 ^ n) (ha0 : a.testBit 0 = true) (hb0 : b.testBit 0 = true) (hT : Tile n a b) : Tile n (timF n a (n - 1)) (timF n b (n - 1)) := by
  have h0 : 0 < n := by omega
  have h1 := tim_tile n a b (n - 1) h2 hn ha hb ha0 hb0 (gcd_pred n h2) hT
  exact (tim_tile n b (timF n a (n - 1)) (n - 1) h2 hn hb (tim_lt n a _ h0 n) hb0 (timF_zero n a _ h0 ha0) (gcd_pred n h2) h1.symm).symm
theorem neg_le (n a : Nat) (h2 : 2 ≤ n) (hn : n ≤ 24) (ha : a < 2 ^ n) (ha0 : a.testBit 0 = true) : (parts n a).length ≤ (parts n (timF n a (n - 1))).length := by
  have h0 : 0 < n := by omega
  have ha' : timF n a (n - 1) < 2 ^ n := tim_lt n a _ h0 n
  have ha0' := timF_zero n a (n - 1) h0 ha0
  have hl : ((parts n a).map fun b => timF n b (n - 1)).Nodup := by
    unfold List.Nodup
    rw [List.pairwise_map]
    refine (parts_nodup h2 ha ha0).imp_of_mem (fun {b c} hb hc hne e => hne ?_)
    have hb := (parts_mem h2 ha ha0 b).mp hb
    have hc := (parts_mem h2 ha ha0 c).mp hc
    rw [← neg_neg n b h0 hb.1, e, neg_neg n c h0 hc.1]
  have := len_le (m := parts n (timF n a (n - 1))) hl (fun x hx => by
    obtain ⟨b, hb, rfl⟩ := List.mem_map.mp hx
    have hb := (parts_mem h2 ha ha0 b).mp hb
    exact (parts_mem h2 ha' ha0' _).mpr ⟨tim_lt n b _ h0 n, timF_zero n b _ h0 hb.2.1, neg_tile n a b h2 hn ha hb.1 ha0 hb.2.1 hb.2.2⟩)
  rwa [List.length_map] at this
/-- Turned it has as many partners. -/
theorem neg_count (n a : Nat) (h2 : 2 ≤ n) (hn : n ≤ 24) (ha : a < 2 ^ n) (ha0 : a.testBit 0 = true) : (parts n (timF n a (n - 1))).length = (parts n a).length := by
  have h0 : 0 < n := by omega
  have h1 := neg_le n a h2 hn ha ha0
  have h3 := neg_le n (timF n a (n - 1)) h2 hn (tim_lt n a _ h0 n) (timF_zero n a _ h0 ha0)
  rw [neg_neg n a h0 ha] at h3
  omega
theorem parts_le (n a : Nat) (h2 : 2 ≤ n) (ha : a < 2 ^ n) (ha0 : a.testBit 0 = true) : (parts n a).length ≤ 2 ^ n := by
  have := len_le (m := List.range (2 ^ n)) (parts_nodup h2 ha ha0) (fun b hb => List.mem_range.mpr ((parts_mem h2 ha ha0 b).mp hb).1)
  rwa [List.length_range] at this
end Go.Proofs.YtknlablmkcabkaaDoor.Pa
