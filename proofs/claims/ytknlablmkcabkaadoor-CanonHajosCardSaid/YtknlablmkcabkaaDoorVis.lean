/- All partners of a rhythm, in the order of the search; what a function that is called for each returns. -/
import Derived.Test.YtknlablmkcabkaaDoorTil
namespace Go.Proofs.YtknlablmkcabkaaDoor.Til
set_option linter.unusedVariables false
set_option linter.unusedSimpArgs false

/-- The first beat that is free. -/
def lowz (f : Nat) : Nat → Nat → Nat
  | 0, z => z
  | m + 1, z => if f.testBit z = true then lowz f m (z + 1) else z
theorem lowz_ok (f : Nat) : ∀ m z, (∃ t, z ≤ t ∧ t < z + m ∧ f.testBit t = false) → z ≤ lowz f m z ∧ lowz f m z < z + m ∧ f.testBit (lowz f m z) = false ∧ ∀ t, z ≤ t → t < lowz f m z → f.testBit t = true := by
  intro m
  induction m with
  | zero => rintro z ⟨t, h1, h2, _⟩; omega
  | succ m ih =>
    rintro z ⟨t, h1, h2, h3⟩
    rw [lowz]
    by_cases h : f.testBit z = true
    · rw [if_pos h]
      have hne : t ≠ z := fun e => by rw [e, h] at h3; cases h3
      have := ih (z + 1) ⟨t, by omega, by omega, h3⟩
      refine ⟨by omega, by omega, this.2.2.1, fun u hu1 hu2 => ?_⟩
      by_cases e : u = z
      · rw [e]; exact h
      · exact this.2.2.2 u (by omega) hu2
    · rw [if_neg h]
      exact ⟨Nat.le_refl _, by omega, by simpa using h, fun u h1 h2 => by omega⟩
def fr (n f : Nat) : Nat := lowz f n 0

/-- The search below a beat x of the rhythm. -/
def vis (n a : Nat) : Nat → Nat → Nat → List Nat
  | 0, _, _ => []
  | k + 1, b, f => if f = 2 ^ n - 1 then [b] else (List.range n).flatMap fun x =>
      if a.testBit x = true ∧ rot n a ((fr n f + n - x) % n) &&& f = 0 then vis n a k (b ||| 1 <<< ((fr n f + n - x) % n)) (f ||| rot n a ((fr n f + n - x) % n)) else []
def br (n a k b f x : Nat) : List Nat := if a.testBit x = true ∧ rot n a ((fr n f + n - x) % n) &&& f = 0 then vis n a k (b ||| 1 <<< ((fr n f + n - x) % n)) (f ||| rot n a ((fr n f + n - x) % n)) else []
theorem vis_succ (n a k b f : Nat) (h : f ≠ 2 ^ n - 1) : vis n a (k + 1) b f = (List.range n).flatMap (br n a k b f) := by
  rw [vis, if_neg h]; rfl
theorem vis_full (n a k b : Nat) : vis n a (k + 1) b (2 ^ n - 1) = [b] := by rw [vis, if_pos rfl]

/-- What step leaves of a state, called for all, as long as it wants more. -/
def runL {σ : Type} (step : σ → Nat → σ × Bool) : σ → List Nat → σ × Bool
  | s, [] => (s, true)
  | s, b :: l => if (step s b).2 = true then runL step (step s b).1 l else ((step s b).1, false)
theorem runL_app {σ : Type} (step : σ → Nat → σ × Bool) : ∀ l s m, runL step s (l ++ m) = if (runL step s l).2 = true then runL step (runL step s l).1 m else runL step s l := by
  intro l
  induction l with
  | nil => intro s m; rfl
  | cons b l ih =>
    intro s m
    rw [List.cons_append, runL, runL]
    by_cases h : (step s b).2 = true
    · rw [if_pos h, if_pos h, ih]
    · rw [if_neg h, if_neg h, if_neg (by simp)]
theorem flat_split (g : Nat → List Nat) (n : Nat) : ∀ j x, x + j = n → ∃ rest, (List.range n).flatMap g = (List.range x).flatMap g ++ rest := by
  intro j
  induction j with
  | zero => intro x h; obtain rfl : x = n := by omega
            exact ⟨[], by simp⟩
  | succ j ih =>
    intro x h
    obtain ⟨rest, e⟩ := ih (x + 1) (by omega)
    refine ⟨g x ++ rest, ?_⟩
    rw [e, List.range_succ, List.flatMap_append]
    simp

/-- What is free. -/
def nfree (n f : Nat) : Nat := ((List.range n).filter fun z => !f.testBit z).length
theorem nfree_lt (n f m z : Nat) (hz : z < n) (hf : f.testBit z = false) (hm : m.testBit z = true) : nfree n (f ||| m) < nfree n f := by
  unfold nfree
  have h0 : ∀ x, (f ||| m).testBit x = (f.testBit x || m.testBit x) := fun x => Nat.testBit_or f m x
  have h1 : ∀ l : List Nat, (l.filter fun z => !(f ||| m).testBit z).length ≤ (l.filter fun z => !f.testBit z).length := by
    intro l
    induction l with
    | nil => exact Nat.le_refl _
    | cons x l ih =>
      rw [List.filter_cons, List.filter_cons, h0 x]
      cases f.testBit x <;> cases m.testBit x <;> simp only [Bool.or_false, Bool.or_true, Bool.not_false, Bool.not_true, if_true, Bool.false_eq_true, if_false, List.length_cons] <;> omega
  have h2 : ∀ l : List Nat, z ∈ l → (l.filter fun z => !(f ||| m).testBit z).length < (l.filter fun z => !f.testBit z).length := by
    intro l
    induction l with
    | nil => intro h; cases h
    | cons x l ih =>
      intro h
      rw [List.filter_cons, List.filter_cons, h0 x]
      rcases List.mem_cons.mp h with e | h
      · have := h1 l
        rw [← e, hf, hm]
        simp only [Bool.or_true, Bool.not_false, Bool.not_true, if_true, Bool.false_eq_true, if_false, List.length_cons]
        omega
      · have := ih h
        cases f.testBit x <;> cases m.testBit x <;> simp only [Bool.or_false, Bool.or_true, Bool.not_false, Bool.not_true, if_true, Bool.false_eq_true, if_false, List.length_cons] <;> omega
  exact h2 _ (List.mem_range.mpr hz)
theorem nfree_le (n f : Nat) : nfree n f ≤ n := by
  have := List.length_filter_le (fun z => !f.testBit z) (List.range n)
  rw [List.length_range] at this
  exact this
theorem not_full {n f : Nat} (hf : f < 2 ^ n) (h : f ≠ 2 ^ n - 1) : ∃ t, t < n ∧ f.testBit t = false := by
  apply Classical.byContradiction
  intro hc
  refine h (Nat.eq_of_testBit_eq fun t => ?_)
  rw [full_bit]
  by_cases ht : t < n
  · rw [decide_eq_true ht]
    cases hb : f.testBit t with
    | true => rfl
    | false => exact absurd ⟨t, ht, hb⟩ hc
  · rw [decide_eq_false ht, testBit_big hf (by omega)]
theorem fr_ok {n f : Nat} (hf : f < 2 ^ n) (h : f ≠ 2 ^ n - 1) : fr n f < n ∧ f.testBit (fr n f) = false ∧ ∀ t, t < fr n f → f.testBit t = true := by
  obtain ⟨t, h1, h2⟩ := not_full hf h
  have := lowz_ok f n 0 ⟨t, by omega, by omega, h2⟩
  exact ⟨by unfold fr; omega, this.2.2.1, fun u hu => this.2.2.2 u (by omega) hu⟩
theorem hits {n a z x : Nat} (ha : a < 2 ^ n) (hz : z < n) (hx : x < n) (hb : a.testBit x = true) : (rot n a ((z + n - x) % n)).testBit z = true := by
  have hn : 0 < n := by omega
  rw [testBit_rot ha (Nat.mod_lt _ hn) hz]
  have : (z + n - (z + n - x) % n) % n = x := by
    rcases Nat.lt_or_ge z x with h | h
    · rw [Nat.mod_eq_of_lt (show z + n - x < n by omega), show z + n - (z + n - x) = x from by omega, Nat.mod_eq_of_lt hx]
    · rw [show z + n - x = (z - x) + n from by omega, Nat.add_mod_right, Nat.mod_eq_of_lt (show z - x < n by omega), show z + n - (z - x) = x + n from by omega, Nat.add_mod_right, Nat.mod_eq_of_lt hx]
  rw [this]; exact hb

/-- b0 lies in b, f is what b0 fills, no beat twice. -/
structure Part (n a b0 f : Nat) : Prop where
  lt : b0 < 2 ^ n
  flt : f < 2 ^ n
  has : b0.testBit 0 = true
  fill : ∀ z, z < n → (f.testBit z = true ↔ ∃ y, y < n ∧ b0.testBit y = true ∧ a.testBit ((z + n - y) % n) = true)
  uniq : Uniq n a b0
theorem part_start {n a : Nat} (hn : 2 ≤ n) (ha : a < 2 ^ n) : Part n a 1 a := by
  have h1 : ∀ y, (1 : Nat).testBit y = true → y = 0 := fun y h => of_decide_eq_true ((one_bit y).symm.trans h)
  refine ⟨Nat.one_lt_two_pow (by omega), ha, rfl, fun z hz => ⟨fun h => ⟨0, by omega, rfl, by rw [Nat.sub_zero, Nat.add_mod_right, Nat.mod_eq_of_lt hz]; exact h⟩, ?_⟩, ?_⟩
  · rintro ⟨y, hy, h, h3⟩
    rw [h1 y h, Nat.sub_zero, Nat.add_mod_right, Nat.mod_eq_of_lt hz] at h3
    exact h3
  · intro x hx y hy x' hx' y' hy' e
    have e1 := h1 y (mem_bitsL.mp hy).2
    have e2 := h1 y' (mem_bitsL.mp hy').2
    subst e1 e2
    rw [Nat.add_zero, Nat.add_zero, Nat.mod_eq_of_lt (mem_bitsL.mp hx).1, Nat.mod_eq_of_lt (mem_bitsL.mp hx').1] at e
    exact ⟨e, rfl⟩
theorem back_x {n z y : Nat} (hz : z < n) (hy : y < n) : ((z + n - y) % n + y) % n = z := by
  rw [Nat.mod_add_mod, show z + n - y + y = z + n from by omega, Nat.add_mod_right, Nat.mod_eq_of_lt hz]
theorem part_next {n a b f y : Nat} (ha : a < 2 ^ n) (hP : Part n a b f) (hy : y < n) (h0 : rot n a y &&& f = 0) : Part n a (b ||| 1 <<< y) (f ||| rot n a y) := by
  have hb : ∀ t, (b ||| 1 <<< y).testBit t = true ↔ b.testBit t = true ∨ t = y := by
    intro t
    rw [Nat.testBit_or, Bool.or_eq_true, shl_bit, decide_eq_true_eq]
    constructor
    · rintro (h | h)
      · exact .inl h
      · exact .inr h.symm
    · rintro (h | h)
      · exact .inl h
      · exact .inr h.symm
  have hdis : ∀ z, z < n → a.testBit ((z + n - y) % n) = true → f.testBit z = true → False := by
    intro z hz h1 h2
    have : (rot n a y &&& f).testBit z = true := by rw [Nat.testBit_and, testBit_rot ha hy hz, h1, h2]; rfl
    rw [h0, Nat.zero_testBit] at this; cases this
  refine ⟨Nat.or_lt_two_pow hP.lt (by rw [Nat.one_shiftLeft]; exact Nat.pow_lt_pow_right (by decide) hy), Nat.or_lt_two_pow hP.flt (rot_lt n a y), (hb 0).mpr (.inl hP.has), ?_, ?_⟩
  · intro z hz
    rw [Nat.testBit_or, Bool.or_eq_true, hP.fill z hz, testBit_rot ha hy hz]
    constructor
    · rintro (⟨y', h1, h2, h3⟩ | h)
      · exact ⟨y', h1, (hb y').mpr (.inl h2), h3⟩
      · exact ⟨y, hy, (hb y).mpr (.inr rfl), h⟩
    · rintro ⟨y', h1, h2, h3⟩
      rcases (hb y').mp h2 with h2 | rfl
      · exact .inl ⟨y', h1, h2, h3⟩
      · exact .inr h3
  · have key : ∀ x ∈ bitsL n a, ∀ x' ∈ bitsL n a, ∀ y' ∈ bitsL n b, (x + y) % n = (x' + y') % n → False := by
      intro x hx x' hx' y' hy' e
      have l1 := mem_bitsL.mp hx
      have l2 := mem_bitsL.mp hx'
      have l3 := mem_bitsL.mp hy'
      have hn : 0 < n := by omega
      have hz : (x + y) % n < n := Nat.mod_lt _ hn
      have bk : ∀ u v : Nat, u < n → v < n → ((u + v) % n + n - v) % n = u := by
        intro u v hu hv
        rcases Nat.lt_or_ge (u + v) n with h | h
        · rw [Nat.mod_eq_of_lt h, show u + v + n - v = u + n from by omega, Nat.add_mod_right, Nat.mod_eq_of_lt hu]
        · rw [Nat.mod_eq_sub_mod h, Nat.mod_eq_of_lt (show u + v - n < n by omega), show u + v - n + n - v = u from by omega, Nat.mod_eq_of_lt hu]
      refine hdis _ hz ?_ ((hP.fill _ hz).mpr ⟨y', l3.1, l3.2, ?_⟩)
      · rw [bk x y l1.1 hy]; exact l1.2
      · rw [e, bk x' y' l2.1 l3.1]; exact l2.2
    intro x hx y1 hy1 x' hx' y2 hy2 e
    have k1 := mem_bitsL.mp hy1
    have k2 := mem_bitsL.mp hy2
    rcases (hb y1).mp k1.2 with h1 | h1
    · rcases (hb y2).mp k2.2 with h2 | h2
      · exact hP.uniq x hx y1 (mem_bitsL.mpr ⟨k1.1, h1⟩) x' hx' y2 (mem_bitsL.mpr ⟨k2.1, h2⟩) e
      · rw [h2] at e
        exact (key x' hx' x hx y1 (mem_bitsL.mpr ⟨k1.1, h1⟩) e.symm).elim
    · rw [h1] at e
      rcases (hb y2).mp k2.2 with h2 | h2
      · exact (key x hx x' hx' y2 (mem_bitsL.mpr ⟨k2.1, h2⟩) e).elim
      · rw [h2] at e
        have := mod_inj (n := n) (x := y) (y := x) (y' := x') (mem_bitsL.mp hx).1 (mem_bitsL.mp hx').1 (by rw [Nat.add_comm, Nat.add_comm y x']; exact e)
        exact ⟨this, by rw [h1, h2]⟩
theorem part_tile {n a b : Nat} (hn : 2 ≤ n) (hP : Part n a b (2 ^ n - 1)) : Tile n a b := by
  have hc : ∀ z, z < n → z ∈ sums n a b := by
    intro z hz
    obtain ⟨y, hy, h1, h2⟩ := (hP.fill z hz).mp (by rw [full_bit, decide_eq_true hz])
    exact mem_sums.mpr ⟨_, mem_bitsL.mpr ⟨Nat.mod_lt _ (by omega), h2⟩, y, mem_bitsL.mpr ⟨hy, h1⟩, back_x hz hy⟩
  refine ⟨hc, ?_⟩
  have h1 := len_le (l := List.range n) (m := sums n a b) List.nodup_range (fun x hx => hc x (List.mem_range.mp hx))
  have h2 := len_le (l := sums n a b) (m := List.range n) (nodup_uniq.mpr hP.uniq) (fun x hx => by
    obtain ⟨u, _, v, _, rfl⟩ := mem_sums.mp hx
    exact List.mem_range.mpr (Nat.mod_lt _ (by omega)))
  rw [sums_length, List.length_range] at h1 h2
  omega
def Sub (b c : Nat) : Prop := ∀ y, b.testBit y = true → c.testBit y = true
/-- The search finds just the partners that hold what was begun. -/
theorem vis_mem {n a : Nat} (hn : 2 ≤ n) (ha : a < 2 ^ n) (ha0 : a.testBit 0 = true) : ∀ k b f, Part n a b f → nfree n f < k → ∀ c, c ∈ vis n a k b f ↔ c < 2 ^ n ∧ c.testBit 0 = true ∧ Tile n a c ∧ Sub b c := by
  intro k
  induction k with
  | zero => intro b f _ h; omega
  | succ k ih =>
    intro b f hP hk c
    by_cases hf : f = 2 ^ n - 1
    · subst hf
      rw [vis_full, List.mem_singleton]
      have hT := part_tile hn hP
      constructor
      · rintro rfl; exact ⟨hP.lt, hP.has, hT, fun y h => h⟩
      · rintro ⟨h1, h2, h3, h4⟩
        apply Nat.eq_of_testBit_eq
        intro y
        cases hb : b.testBit y with
        | true => exact h4 y hb
        | false =>
          cases hc : c.testBit y with
          | false => rfl
          | true =>
            exfalso
            have hyn : y < n := by
              rcases Nat.lt_or_ge y n with h | h
              · exact h
              · rw [testBit_big h1 h] at hc; cases hc
            obtain ⟨y', hy', hb', hx⟩ := (hP.fill y hyn).mp (by rw [full_bit, decide_eq_true hyn])
            have := h3.uniq 0 (mem_bitsL.mpr ⟨by omega, ha0⟩) y (mem_bitsL.mpr ⟨hyn, hc⟩) _ (mem_bitsL.mpr ⟨Nat.mod_lt _ (by omega), hx⟩) y' (mem_bitsL.mpr ⟨hy', h4 y' hb'⟩) (by rw [Nat.zero_add, back_x hyn hy', Nat.mod_eq_of_lt hyn])
            rw [this.2, hb'] at hb; cases hb
    · obtain ⟨f1, f2, f3⟩ := fr_ok hP.flt hf
      rw [vis_succ _ _ _ _ _ hf, List.mem_flatMap]
      constructor
      · rintro ⟨x, hx, hc⟩
        unfold br at hc
        split at hc
        case isFalse => cases hc
        case isTrue h =>
          have hy : (fr n f + n - x) % n < n := Nat.mod_lt _ (by omega)
          have hP' := part_next ha hP hy h.2
          have := (ih _ _ hP' (by have := nfree_lt n f _ (fr n f) f1 f2 (hits ha f1 (List.mem_range.mp hx) h.1); omega) c).mp hc
          exact ⟨this.1, this.2.1, this.2.2.1, fun y h' => this.2.2.2 y (by rw [Nat.testBit_or, h']; rfl)⟩
      · rintro ⟨h1, h2, h3, h4⟩
        obtain ⟨x, hx, y, hy, e⟩ := mem_sums.mp (h3.1 (fr n f) f1)
        have l1 := mem_bitsL.mp hx
        have l2 := mem_bitsL.mp hy
        have hyx : (fr n f + n - x) % n = y := by
          rw [← e]
          rcases Nat.lt_or_ge (x + y) n with h | h
          · rw [Nat.mod_eq_of_lt h, show x + y + n - x = y + n from by omega, Nat.add_mod_right, Nat.mod_eq_of_lt l2.1]
          · rw [Nat.mod_eq_sub_mod h, Nat.mod_eq_of_lt (show x + y - n < n by omega), show x + y - n + n - x = y from by omega, Nat.mod_eq_of_lt l2.1]
        have hdis : rot n a y &&& f = 0 := by
          apply Nat.eq_of_testBit_eq
          intro t
          rw [Nat.testBit_and, Nat.zero_testBit]
          rcases Nat.lt_or_ge t n with htn | htn
          · rw [testBit_rot ha l2.1 htn]
            cases h5 : a.testBit ((t + n - y) % n) with
            | false => rfl
            | true =>
              cases h6 : f.testBit t with
              | false => rfl
              | true =>
                exfalso
                obtain ⟨y', hy', hb', hx'⟩ := (hP.fill t htn).mp h6
                have h7 := h3.uniq _ (mem_bitsL.mpr ⟨Nat.mod_lt _ (by omega), h5⟩) y hy _ (mem_bitsL.mpr ⟨Nat.mod_lt _ (by omega), hx'⟩) y' (mem_bitsL.mpr ⟨hy', h4 y' hb'⟩) (by rw [back_x htn l2.1, back_x htn hy'])
                have h8 : f.testBit (fr n f) = true := (hP.fill _ f1).mpr ⟨y', hy', hb', by
                  rw [← h7.2, ← e]
                  have : ((x + y) % n + n - y) % n = x := by
                    rcases Nat.lt_or_ge (x + y) n with h | h
                    · rw [Nat.mod_eq_of_lt h, show x + y + n - y = x + n from by omega, Nat.add_mod_right, Nat.mod_eq_of_lt l1.1]
                    · rw [Nat.mod_eq_sub_mod h, Nat.mod_eq_of_lt (show x + y - n < n by omega), show x + y - n + n - y = x from by omega, Nat.mod_eq_of_lt l1.1]
                  rw [this]; exact l1.2⟩
                rw [f2] at h8; cases h8
          · rw [testBit_big hP.flt htn, Bool.and_false]
        refine ⟨x, List.mem_range.mpr l1.1, ?_⟩
        unfold br
        rw [hyx, if_pos ⟨l1.2, hdis⟩]
        have hlt := nfree_lt n f (rot n a y) (fr n f) f1 f2 (by rw [← hyx]; exact hits ha f1 l1.1 l1.2)
        refine (ih _ _ (part_next ha hP l2.1 hdis) (by omega) c).mpr ⟨h1, h2, h3, fun t ht => ?_⟩
        rw [Nat.testBit_or, Bool.or_eq_true, shl_bit] at ht
        rcases ht with ht | ht
        · exact h4 t ht
        · rw [← of_decide_eq_true ht]; exact l2.2
/-- No partner comes twice. -/
theorem vis_nodup {n a : Nat} (hn : 2 ≤ n) (ha : a < 2 ^ n) (ha0 : a.testBit 0 = true) : ∀ k b f, Part n a b f → nfree n f < k → (vis n a k b f).Nodup := by
  intro k
  induction k with
  | zero => intro b f _ h; omega
  | succ k ih =>
    intro b f hP hk
    by_cases hf : f = 2 ^ n - 1
    · subst hf
      rw [vis_full]
      simp
    · obtain ⟨f1, f2, f3⟩ := fr_ok hP.flt hf
      rw [vis_succ _ _ _ _ _ hf]
      have hbr : ∀ x, x < n → (br n a k b f x).Nodup := by
        intro x hx
        unfold br
        split
        · rename_i h
          exact ih _ _ (part_next ha hP (Nat.mod_lt _ (by omega)) h.2) (by have := nfree_lt n f _ (fr n f) f1 f2 (hits ha f1 hx h.1); omega)
        · exact List.nodup_nil
      unfold List.Nodup
      rw [List.pairwise_flatMap]
      refine ⟨fun x hx => hbr x (List.mem_range.mp hx), ?_⟩
      refine (List.nodup_range (n := n)).imp_of_mem (fun {x x'} hx hx' hne u hu v hv e => ?_)
      have hx := List.mem_range.mp hx
      have hx' := List.mem_range.mp hx'
      subst e
      have inb : ∀ x, x < n → u ∈ br n a k b f x → a.testBit x = true ∧ u.testBit ((fr n f + n - x) % n) = true ∧ Tile n a u := by
        intro x hx hu
        unfold br at hu
        split at hu
        case isFalse => cases hu
        case isTrue h =>
          have := (vis_mem hn ha ha0 k _ _ (part_next ha hP (Nat.mod_lt _ (by omega)) h.2) (by have := nfree_lt n f _ (fr n f) f1 f2 (hits ha f1 hx h.1); omega) u).mp hu
          refine ⟨h.1, this.2.2.2 _ ?_, this.2.2.1⟩
          rw [Nat.testBit_or, shl_bit, decide_eq_true rfl, Bool.or_true]
      have g1 := inb x hx hu
      have g2 := inb x' hx' hv
      have bx : ∀ x, x < n → (x + (fr n f + n - x) % n) % n = fr n f := by
        intro x hx
        rw [Nat.add_mod_mod, show x + (fr n f + n - x) = fr n f + n from by omega, Nat.add_mod_right, Nat.mod_eq_of_lt f1]
      have := g1.2.2.uniq x (mem_bitsL.mpr ⟨hx, g1.1⟩) _ (mem_bitsL.mpr ⟨Nat.mod_lt _ (by omega), g1.2.1⟩) x' (mem_bitsL.mpr ⟨hx', g2.1⟩) _ (mem_bitsL.mpr ⟨Nat.mod_lt _ (by omega), g2.2.1⟩) (by rw [bx x hx, bx x' hx'])
      exact hne this.1
/-- All partners of a rhythm. -/
def parts (n a : Nat) : List Nat := vis n a (n + 1) 1 a
theorem parts_mem {n a : Nat} (hn : 2 ≤ n) (ha : a < 2 ^ n) (ha0 : a.testBit 0 = true) (c : Nat) : c ∈ parts n a ↔ c < 2 ^ n ∧ c.testBit 0 = true ∧ Tile n a c := by
  unfold parts
  rw [vis_mem hn ha ha0 (n + 1) 1 a (part_start hn ha) (by have := nfree_le n a; omega)]
  constructor
  · rintro ⟨h1, h2, h3, _⟩; exact ⟨h1, h2, h3⟩
  · rintro ⟨h1, h2, h3⟩
    exact ⟨h1, h2, h3, fun y hy => by rw [of_decide_eq_true ((one_bit y).symm.trans hy)]; exact h2⟩
theorem parts_nodup {n a : Nat} (hn : 2 ≤ n) (ha : a < 2 ^ n) (ha0 : a.testBit 0 = true) : (parts n a).Nodup :=
  vis_nodup hn ha ha0 (n + 1) 1 a (part_start hn ha) (by have := nfree_le n a; omega)
end Go.Proofs.YtknlablmkcabkaaDoor.Til
