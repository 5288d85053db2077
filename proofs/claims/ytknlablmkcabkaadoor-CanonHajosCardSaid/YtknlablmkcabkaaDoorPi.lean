/- What is left of a rhythm's polynomial is the sum of what is left of its beats': packed into one number for all divisors at once. -/
import Derived.Test.YtknlablmkcabkaaDoorPd
import Derived.Test.YtknlablmkcabkaaDoorPg
import Derived.Test.YtknlablmkcabkaaDoorTil
namespace Go.Proofs.YtknlablmkcabkaaDoor.Pa
open Go.RowKit QCanonConditions Til Go.Proofs.YtknlablmkcabkaaDoorW.PrintWords Go.Proofs.YtknlablmkcabkaaDoorW.PrintLast Go.Proofs.YtknlablmkcabkaaDoorW.PrintMore
set_option linter.unusedVariables false
set_option linter.unusedSimpArgs false

def Cg (x y : Int) : Prop := (x - y) % 18446744073709551616 = 0
theorem cg_wrap (x : Int) : Cg (wrap64 x) x := by unfold Cg wrap64; omega
theorem Cg.trans {x y z : Int} (h : Cg x y) (k : Cg y z) : Cg x z := by unfold Cg at *; omega
theorem Cg.symm {x y : Int} (h : Cg x y) : Cg y x := by unfold Cg at *; omega
theorem Cg.add {x y u v : Int} (h : Cg x y) (k : Cg u v) : Cg (x + u) (y + v) := by unfold Cg at *; omega
theorem Cg.sub {x y u v : Int} (h : Cg x y) (k : Cg u v) : Cg (x - u) (y - v) := by unfold Cg at *; omega
theorem Cg.mul {x y : Int} (h : Cg x y) (z : Int) : Cg (x * z) (y * z) := by
  unfold Cg at *
  obtain ⟨q, hq⟩ : ∃ q, x - y = 18446744073709551616 * q := ⟨(x - y) / 18446744073709551616, by omega⟩
  rw [← Int.sub_mul, hq, Int.mul_assoc]
  omega
theorem Cg.refl (x : Int) : Cg x x := by unfold Cg; omega
def InR (x : Int) : Prop := -9223372036854775808 ≤ x ∧ x < 9223372036854775808
theorem inr_wrap (x : Int) : InR (wrap64 x) := by unfold InR wrap64; omega
theorem Cg.eq {x y : Int} (h : Cg x y) (hx : InR x) (hy : InR y) : x = y := by unfold Cg InR at *; omega

theorem inn_rd (g : List Int) (off : Nat) (c : Int) : ∀ m j f (t : Nat), off + j + m ≤ f.length →
    rd (inn g off c m j f) (t : Int) = if off + j ≤ t ∧ t < off + j + m then wrap64 (rd f (t : Int) - wrap64 (c * rd g ((t - off : Nat) : Int))) else rd f (t : Int) := by
  intro m
  induction m with
  | zero =>
    intro j f t h
    rw [if_neg (by omega)]
    rfl
  | succ m ih =>
    intro j f t h
    rw [inn, ih (j + 1) _ t (by simp; omega)]
    by_cases h1 : t = off + j
    · subst h1
      rw [if_neg (by omega), if_pos (by omega), rd_set_eq _ _ _ (by omega), show off + j - off = j from by omega]
    · rw [rd_set_ne _ _ _ _ h1]
      by_cases h2 : off + (j + 1) ≤ t ∧ t < off + (j + 1) + m
      · rw [if_pos h2, if_pos (by omega)]
      · rw [if_neg h2, if_neg (by omega)]

/-- f is h and p together. -/
def Sum3 (F : Nat) (f h p : List Int) : Prop := ∀ t : Nat, t < F → Cg (rd f (t : Int)) (rd h (t : Int) + rd p (t : Int))
theorem outr_add (g : List Int) (d F : Nat) : ∀ m f h p, f.length = F → h.length = F → p.length = F → d + m ≤ F → Sum3 F f h p → Sum3 F (outr g d m f) (outr g d m h) (outr g d m p) := by
  intro m
  induction m with
  | zero => intro f h p h1 h2 h3 h4 h5; exact h5
  | succ m ih =>
    intro f h p h1 h2 h3 h4 h5
    rw [outr, outr, outr]
    refine ih _ _ _ (by rw [inn_length]; exact h1) (by rw [inn_length]; exact h2) (by rw [inn_length]; exact h3) (by omega) ?_
    intro t ht
    rw [inn_rd _ _ _ _ _ _ _ (by omega), inn_rd _ _ _ _ _ _ _ (by omega), inn_rd _ _ _ _ _ _ _ (by omega)]
    by_cases hc : m + 0 ≤ t ∧ t < m + 0 + (d + 1)
    · rw [if_pos hc, if_pos hc, if_pos hc]
      have hm := (h5 (d + m) (by omega)).mul (rd g ((t - m : Nat) : Int))
      rw [Int.add_mul] at hm
      have h6 := h5 t ht
      generalize rd f ((d + m : Nat) : Int) * rd g ((t - m : Nat) : Int) = u at *
      generalize rd h ((d + m : Nat) : Int) * rd g ((t - m : Nat) : Int) = v at *
      generalize rd p ((d + m : Nat) : Int) * rd g ((t - m : Nat) : Int) = z at *
      unfold Cg wrap64 at *
      omega
    · rw [if_neg hc, if_neg hc, if_neg hc]
      exact h5 t ht
theorem outr_inr (g : List Int) (d F : Nat) : ∀ m f, f.length = F → d + m ≤ F → (∀ t : Nat, InR (rd f (t : Int))) → ∀ t : Nat, InR (rd (outr g d m f) (t : Int)) := by
  intro m
  induction m with
  | zero => intro f h1 h2 h3; exact h3
  | succ m ih =>
    intro f h1 h2 h3
    rw [outr]
    refine ih _ (by rw [inn_length]; exact h1) (by omega) (fun t => ?_)
    rw [inn_rd _ _ _ _ _ _ _ (by omega)]
    split
    · exact inr_wrap _
    · exact h3 t

/-! ### The polynomial's coefficients -/
theorem and_one (x : Int) (h0 : 0 ≤ x) (h1 : x < 9223372036854775808) : Go.bits .and .i64 x 1 = x % 2 := by
  have : Go.bits .and .i64 x 1 = x % 2 ^ 1 := bits_mask .i64 63 (by decide) (fun n h0 h1 => by rw [IntKind.wrap_i64]; omega) 1 (by decide) x h0 (by omega)
  simpa using this
theorem bit_int (a j : Nat) (ha : a < 16777216) (hj : j < 64) : Go.bits .and .i64 (shr .i64 (a : Int) (j : Int)) 1 = ((a.testBit j).toNat : Int) := by
  have e : shr .i64 (a : Int) (j : Int) = ((a / 2 ^ j : Nat) : Int) := by
    unfold shr
    rw [Int.toNat_natCast, Nat.min_eq_left (show j ≤ IntKind.i64.bits from by show j ≤ 64; omega)]
    simp
  have hle : a / 2 ^ j ≤ a := Nat.div_le_self _ _
  rw [e, Nat.testBit_eq_decide_div_mod_eq]
  generalize a / 2 ^ j = q at *
  rw [and_one _ (by omega) (by omega)]
  rcases Nat.mod_two_eq_zero_or_one q with h | h
  · rw [h]; show (q : Int) % 2 = 0; omega
  · rw [h]; show (q : Int) % 2 = 1; omega
theorem fillR_rd (a : Int) : ∀ m j f (t : Nat), j + m ≤ f.length → rd (fillR a m j f) (t : Int) = if j ≤ t ∧ t < j + m then Go.bits .and .i64 (shr .i64 a (t : Int)) 1 else rd f (t : Int) := by
  intro m
  induction m with
  | zero => intro j f t h; rw [if_neg (by omega)]; rfl
  | succ m ih =>
    intro j f t h
    rw [fillR, ih (j + 1) _ t (by simp; omega)]
    by_cases h1 : t = j
    · subst h1
      rw [if_neg (by omega), if_pos (by omega), rd_set_eq _ _ _ (by omega)]
    · rw [rd_set_ne _ _ _ _ h1]
      by_cases h2 : j + 1 ≤ t ∧ t < j + 1 + m
      · rw [if_pos h2, if_pos (by omega)]
      · rw [if_neg h2, if_neg (by omega)]
theorem rd_far (f : List Int) (t : Nat) (h : f.length ≤ t) : rd f (t : Int) = 0 := by
  simp [rd, List.getD, List.getElem?_eq_none h]
theorem pol_rd (n a t : Nat) (hn : n ≤ 24) (ha : a < 16777216) (ht : t < n) : rd (pol n (a : Int)) (t : Int) = ((a.testBit t).toNat : Int) := by
  rw [pol, fillR_rd _ _ _ _ _ (by simp), if_pos (by omega), bit_int a t ha (by omega)]
theorem pol_inr (n a t : Nat) (hn : n ≤ 24) (ha : a < 16777216) : InR (rd (pol n (a : Int)) (t : Int)) := by
  by_cases ht : t < n
  · rw [pol_rd n a t hn ha ht]
    unfold InR
    cases a.testBit t <;> decide
  · rw [rd_far _ _ (by rw [pol_length]; omega)]
    unfold InR; decide
/-- x^k. -/
def unit (n k : Nat) : List Int := (List.replicate n 0).set k 1
theorem unit_rd (n k t : Nat) (ht : t < n) : rd (unit n k) (t : Int) = if t = k then 1 else 0 := by
  unfold unit
  by_cases h : t = k
  · subst h
    rw [if_pos rfl, rd_set_eq _ _ _ (by simpa using ht)]
  · rw [if_neg h, rd_set_ne _ _ _ _ h]
    simp [rd, List.getD, ht]
/-- What is left of x^k. -/
def rest (n s k : Nat) : List Int := outr (cyc s) ((cyc s).length - 1) (n - ((cyc s).length - 1)) (unit n k)
/-- The sum of what is left of the first m beats. -/
def restS (n s a : Nat) (t : Nat) : Nat → Int
  | 0 => 0
  | m + 1 => restS n s a t m + (if a.testBit m = true then rd (rest n s m) (t : Int) else 0)
theorem restS_abs {n s a t : Nat} (h : ∀ k, k < n → -1 ≤ rd (rest n s k) (t : Int) ∧ rd (rest n s k) (t : Int) ≤ 1) : ∀ m, m ≤ n → -(m : Int) ≤ restS n s a t m ∧ restS n s a t m ≤ m := by
  intro m
  induction m with
  | zero => intro _; exact ⟨Int.le_refl _, Int.le_refl _⟩
  | succ m ih =>
    intro hm
    have h1 := ih (by omega)
    have h2 := h m (by omega)
    rw [restS]
    split <;> omega
theorem mod_bit (a m t : Nat) : (a % 2 ^ m).testBit t = (decide (t < m) && a.testBit t) := Nat.testBit_mod_two_pow a m t
theorem restS_mod (n s a t m k : Nat) (h : m ≤ k) : restS n s (a % 2 ^ k) t m = restS n s a t m := by
  induction m with
  | zero => rfl
  | succ m ih =>
    rw [restS, restS, ih (by omega), mod_bit, decide_eq_true (show m < k by omega), Bool.true_and]
theorem left_sum (n s a t : Nat) (hn : n ≤ 24) (ha : a < 16777216) (ht : t < n) (hd : (cyc s).length - 1 ≤ n) (hr : ∀ k, k < n → -1 ≤ rd (rest n s k) (t : Int) ∧ rd (rest n s k) (t : Int) ≤ 1) : ∀ m, m ≤ n →
    rd (outr (cyc s) ((cyc s).length - 1) (n - ((cyc s).length - 1)) (pol n ((a % 2 ^ m : Nat) : Int))) (t : Int) = restS n s a t m := by
  intro m
  have hle : ∀ k, a % 2 ^ k < 16777216 := fun k => Nat.lt_of_le_of_lt (Nat.mod_le _ _) ha
  induction m with
  | zero =>
    intro _
    have e : a % 2 ^ 0 = 0 := by rw [Nat.pow_zero, Nat.mod_one]
    rw [e, restS]
    have h1 := outr_add (cyc s) ((cyc s).length - 1) n (n - ((cyc s).length - 1)) (pol n ((0 : Nat) : Int)) (pol n ((0 : Nat) : Int)) (pol n ((0 : Nat) : Int)) (pol_length _ _) (pol_length _ _) (pol_length _ _) (by omega) (fun t ht => by
      rw [pol_rd n 0 t hn (by omega) ht, Nat.zero_testBit]; exact Cg.refl _) t ht
    have h2 := outr_inr (cyc s) ((cyc s).length - 1) n (n - ((cyc s).length - 1)) (pol n ((0 : Nat) : Int)) (pol_length _ _) (by omega) (fun t => pol_inr n 0 t hn (by omega)) t
    generalize rd (outr (cyc s) ((cyc s).length - 1) (n - ((cyc s).length - 1)) (pol n ((0 : Nat) : Int))) (t : Int) = x at *
    unfold Cg InR at *
    omega
  | succ m ih =>
    intro hm
    have h0 := ih (by omega)
    rw [restS]
    cases hb : a.testBit m with
    | false =>
      have e : a % 2 ^ (m + 1) = a % 2 ^ m := by
        apply Nat.eq_of_testBit_eq
        intro j
        rw [mod_bit, mod_bit]
        by_cases hj : j = m
        · subst hj; rw [hb]; simp
        · rw [show decide (j < m + 1) = decide (j < m) from by simp; omega]
      rw [e, h0, if_neg (by simp), Int.add_zero]
    | true =>
      rw [if_pos rfl]
      have h1 := outr_add (cyc s) ((cyc s).length - 1) n (n - ((cyc s).length - 1)) (pol n ((a % 2 ^ (m + 1) : Nat) : Int)) (pol n ((a % 2 ^ m : Nat) : Int)) (unit n m) (pol_length _ _) (pol_length _ _) (by simp [unit]) (by omega) (fun t ht => by
        rw [pol_rd n _ t hn (hle _) ht, pol_rd n _ t hn (hle _) ht, unit_rd n m t ht, mod_bit, mod_bit]
        by_cases hj : t = m
        · subst hj; rw [hb]; simp; exact Cg.refl _
        · rw [show decide (t < m + 1) = decide (t < m) from by simp; omega, if_neg hj, Int.add_zero]; exact Cg.refl _) t ht
      have h2 := outr_inr (cyc s) ((cyc s).length - 1) n (n - ((cyc s).length - 1)) (pol n ((a % 2 ^ (m + 1) : Nat) : Int)) (pol_length _ _) (by omega) (fun t => pol_inr n _ t hn (hle _)) t
      have h3 := restS_abs (a := a) hr m (by omega)
      have h4 := hr m (by omega)
      rw [h0] at h1
      exact h1.eq h2 (by show InR (restS n s a t m + rd (rest n s m) (t : Int)); unfold InR; omega)

theorem all0_iff (f : List Int) : all0 f = true ↔ ∀ t : Nat, t < f.length → rd f (t : Int) = 0 := by
  unfold all0
  rw [List.all_eq_true]
  constructor
  · intro h t ht
    have := h (f[t]) (List.getElem_mem ht)
    simpa [rd, List.getD, List.getElem?_eq_getElem ht] using this
  · intro h x hx
    obtain ⟨i, hi, rfl⟩ := List.mem_iff_getElem.mp hx
    have := h i hi
    simpa [rd, List.getD, List.getElem?_eq_getElem hi] using this
/-- s is a root exactly if the sums of what is left are 0. -/
theorem isR_iff (n s a : Nat) (hn : n ≤ 24) (ha : a < 2 ^ n) (hd1 : 1 ≤ (cyc s).length - 1) (hd : (cyc s).length - 1 ≤ n) (hg : rd (cyc s) (((cyc s).length - 1 : Nat) : Int) = 1) (hr : ∀ t, t < n → ∀ k, k < n → -1 ≤ rd (rest n s k) (t : Int) ∧ rd (rest n s k) (t : Int) ≤ 1) :
    isR n (a : Int) s = true ↔ ∀ t, t < (cyc s).length - 1 → restS n s a t n = 0 := by
  have ha' : a < 16777216 := Nat.lt_of_lt_of_le ha (Nat.pow_le_pow_right (by decide) hn)
  unfold isR left0
  rw [pol_length, ← all0_take _ ((cyc s).length - 1) (fun t h1 h2 => outr_zero (cyc s) _ hg _ _ (by rw [pol_length]; omega) t h1 (by rw [outr_length, pol_length] at h2; omega)), all0_iff]
  have hl : ((outr (cyc s) ((cyc s).length - 1) (n - ((cyc s).length - 1)) (pol n (a : Int))).take ((cyc s).length - 1)).length = (cyc s).length - 1 := by rw [List.length_take, outr_length, pol_length]; omega
  rw [hl]
  have key : ∀ t, t < (cyc s).length - 1 → rd ((outr (cyc s) ((cyc s).length - 1) (n - ((cyc s).length - 1)) (pol n (a : Int))).take ((cyc s).length - 1)) (t : Int) = restS n s a t n := by
    intro t ht
    have h1 := left_sum n s a t hn ha' (by omega) hd (hr t (by omega)) n (Nat.le_refl _)
    rw [Nat.mod_eq_of_lt ha] at h1
    rw [← h1]
    simp only [rd, Int.toNat_natCast, List.getD, List.getElem?_take, if_pos ht]
  constructor
  · intro h t ht; rw [← key t ht]; exact h t ht
  · intro h t ht; rw [key t ht]; exact h t ht

/-! ### Packed -/
def packL : List Nat → Nat
  | [] => 0
  | x :: l => x + 256 * packL l
def addL : List Nat → List Nat → List Nat
  | x :: l, y :: m => (x + y) :: addL l m
  | _, _ => []
theorem addL_length : ∀ (l m : List Nat), l.length = m.length → (addL l m).length = l.length := by
  intro l
  induction l with
  | nil => intro m _; simp [addL]
  | cons x l ih =>
    intro m h
    cases m with
    | nil => simp at h
    | cons y m => simp only [addL, List.length_cons]; rw [ih m (by simpa using h)]
theorem packL_add : ∀ (l m : List Nat), l.length = m.length → packL (addL l m) = packL l + packL m := by
  intro l
  induction l with
  | nil => intro m h; cases m with | nil => rfl | cons _ _ => simp at h
  | cons x l ih =>
    intro m h
    cases m with
    | nil => simp at h
    | cons y m => simp only [addL, packL]; rw [ih m (by simpa using h)]; omega
theorem addL_get : ∀ (l m : List Nat) (t : Nat), l.length = m.length → (addL l m).getD t 0 = l.getD t 0 + m.getD t 0 := by
  intro l
  induction l with
  | nil => intro m t h; cases m with | nil => simp [addL] | cons _ _ => simp at h
  | cons x l ih =>
    intro m t h
    cases m with
    | nil => simp at h
    | cons y m =>
      cases t with
      | zero => simp [addL]
      | succ t => simp only [addL, List.getD_cons_succ]; exact ih m t (by simpa using h)
theorem packL_app (l m : List Nat) : packL (l ++ m) = packL l + 256 ^ l.length * packL m := by
  induction l with
  | nil => simp [packL]
  | cons x l ih =>
    simp only [List.cons_append, packL, List.length_cons]
    rw [ih, Nat.pow_succ, Nat.mul_add, Nat.mul_comm (256 ^ l.length) 256, Nat.mul_assoc]
    omega
theorem packL_lt : ∀ (l : List Nat), (∀ x ∈ l, x < 256) → packL l < 256 ^ l.length := by
  intro l
  induction l with
  | nil => intro _; decide
  | cons x l ih =>
    intro h
    have h1 := ih (fun y hy => h y (by simp [hy]))
    have h2 := h x (by simp)
    simp only [packL, List.length_cons, Nat.pow_succ]
    omega
theorem packL_same : ∀ (l : List Nat) (c : Nat), (∀ x ∈ l, x < 256) → c < 256 → (packL l = packL (List.replicate l.length c) ↔ ∀ x ∈ l, x = c) := by
  intro l
  induction l with
  | nil => intro c _ _; simp
  | cons x l ih =>
    intro c h hc
    have h1 := ih c (fun y hy => h y (by simp [hy])) hc
    have h2 := h x (by simp)
    simp only [packL, List.length_cons, List.replicate_succ, List.mem_cons, forall_eq_or_imp]
    rw [← h1]
    omega
end Go.Proofs.YtknlablmkcabkaaDoor.Pa
