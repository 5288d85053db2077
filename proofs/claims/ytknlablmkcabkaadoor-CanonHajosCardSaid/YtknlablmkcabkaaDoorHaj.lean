/- Of two rhythms that fill the circle one has a period below it: looked through all pairs. -/
import Derived.Test.YtknlablmkcabkaaDoorTil
namespace Go.Proofs.YtknlablmkcabkaaDoor.Til
set_option linter.unusedVariables false
set_option linter.unusedSimpArgs false

def isPer (n a d : Nat) : Bool := Nat.beq (Nat.mod n d) 0 && Nat.beq (rot n a d) a
def perL (n a : Nat) : Nat → Nat → Nat
  | 0, d => d
  | k + 1, d => if isPer n a d = true then d else perL n a k (d + 1)
/-- The least period. -/
def per (n a : Nat) : Nat := perL n a (n - 1) 1
theorem rot_full (n a : Nat) (ha : a < 2 ^ n) : rot n a n = a := by
  unfold rot
  apply Nat.eq_of_testBit_eq
  intro z
  rw [Nat.testBit_and, Nat.testBit_or, Nat.testBit_two_pow_sub_one, Nat.testBit_shiftLeft, Nat.testBit_shiftRight, Nat.sub_self, Nat.zero_add]
  by_cases hz : z < n
  · have : ¬ z ≥ n := by omega
    simp [hz, this]
  · simp only [hz, decide_false, Bool.and_false]
    exact (testBit_big ha (by omega)).symm
theorem isPer_full (n a : Nat) (ha : a < 2 ^ n) : isPer n a n = true := by
  unfold isPer
  rw [rot_full n a ha]
  have : Nat.mod n n = 0 := Nat.mod_self n
  rw [this]
  simp
theorem perL_spec (n a : Nat) (ha : a < 2 ^ n) : ∀ k d, d + k = n → perL n a k d ≤ n ∧ d ≤ perL n a k d ∧ isPer n a (perL n a k d) = true ∧ ∀ e, d ≤ e → e < perL n a k d → isPer n a e = false := by
  intro k
  induction k with
  | zero =>
    intro d h
    obtain rfl : d = n := by omega
    exact ⟨Nat.le_refl _, Nat.le_refl _, isPer_full d a ha, fun e h1 h2 => by rw [perL] at h2; omega⟩
  | succ k ih =>
    intro d h
    rw [perL]
    by_cases hp : isPer n a d = true
    · rw [if_pos hp]
      exact ⟨by omega, Nat.le_refl _, hp, fun e h1 h2 => by omega⟩
    · rw [if_neg hp]
      obtain ⟨h1, h2, h3, h4⟩ := ih (d + 1) (by omega)
      refine ⟨h1, by omega, h3, fun e h5 h6 => ?_⟩
      by_cases e1 : e = d
      · rw [e1]; simpa using hp
      · exact h4 e (by omega) h6
theorem per_spec (n a : Nat) (hn : 0 < n) (ha : a < 2 ^ n) : per n a ≤ n ∧ 1 ≤ per n a ∧ isPer n a (per n a) = true ∧ ∀ e, 1 ≤ e → e < per n a → isPer n a e = false := perL_spec n a ha (n - 1) 1 (by omega)
theorem per_lt {n a d : Nat} (hn : 0 < n) (ha : a < 2 ^ n) (h1 : 1 ≤ d) (h2 : d < n) (h : isPer n a d = true) : per n a < n := by
  rcases Nat.lt_or_ge (per n a) n with h3 | h3
  · exact h3
  · have := (per_spec n a hn ha).2.2.2 d h1 (by omega)
    rw [h] at this; cases this
noncomputable def anyL (p : Nat → Bool) (l : List Nat) : Bool := List.rec (motive := fun _ => Bool) false (fun x _ ih => Bool.rec ih true (p x)) l
theorem anyL_ex {p : Nat → Bool} : ∀ {l : List Nat}, anyL p l = true → ∃ x ∈ l, p x = true := by
  intro l
  induction l with
  | nil => intro h; cases h
  | cons y l ih =>
    intro h
    have h' : Bool.rec (motive := fun _ => Bool) (anyL p l) true (p y) = true := h
    cases hy : p y with
    | true => exact ⟨y, by simp, hy⟩
    | false =>
      rw [hy] at h'
      obtain ⟨x, hx, hp⟩ := ih h'
      exact ⟨x, by simp [hx], hp⟩
def dvs (n : Nat) : List Nat := (List.range n).filter fun d => decide (1 ≤ d) && decide (n % d = 0)
noncomputable def hajOK (n : Nat) : Bool := (sizes n).all (leafAll n fun a b => anyL (fun d => Nat.beq (rot n b d) b) (dvs n) || anyL (fun d => Nat.beq (rot n a d) a) (dvs n))
theorem haj_20 : ((List.range 21).drop 2).all hajOK = true := by decide +kernel
theorem haj_23 : [21, 22, 23].all hajOK = true := by decide +kernel
theorem haj_24 : hajOK 24 = true := by decide +kernel
theorem haj_at (n : Nat) (h2 : 2 ≤ n) (hn : n ≤ 24) : hajOK n = true := by
  by_cases h : n ≤ 20
  · refine List.all_eq_true.mp haj_20 n ?_
    rw [List.mem_iff_getElem]
    exact ⟨n - 2, by simp; omega, by simp; omega⟩
  · by_cases h : n ≤ 23
    · exact List.all_eq_true.mp haj_23 n (by simp; omega)
    · obtain rfl : n = 24 := by omega
      exact haj_24
theorem tile_per (n a b : Nat) (h2 : 2 ≤ n) (hn : n ≤ 24) (ha : a < 2 ^ n) (hb : b < 2 ^ n) (ha0 : a.testBit 0 = true) (hb0 : b.testBit 0 = true) (hT : Tile n a b) : per n a < n ∨ per n b < n := by
  have one : ∀ c, c < 2 ^ n → anyL (fun d => Nat.beq (rot n c d) c) (dvs n) = true → per n c < n := by
    intro c hc h
    obtain ⟨d, hd, hp⟩ := anyL_ex h
    have hd := List.mem_filter.mp hd
    simp only [Bool.and_eq_true, decide_eq_true_eq] at hd
    refine per_lt (by omega) hc hd.2.1 (List.mem_range.mp hd.1) ?_
    unfold isPer
    rw [show Nat.mod n d = 0 from hd.2.2]
    simpa using hp
  have main : ∀ a b : Nat, a < 2 ^ n → b < 2 ^ n → a.testBit 0 = true → b.testBit 0 = true → Tile n a b → (bitsL n a).length ≤ (bitsL n b).length → per n a < n ∨ per n b < n := by
    intro a b ha hb ha0 hb0 hT hle
    have h1 := List.all_eq_true.mp (haj_at n h2 hn) _ (sizes_mem hT (by omega) hle)
    have h3 := leafAll_ok (by omega) ha hb ha0 hb0 hT rfl h1
    rcases Bool.or_eq_true _ _ |>.mp h3 with h | h
    · exact .inr (one b hb h)
    · exact .inl (one a ha h)
  rcases Nat.le_total (bitsL n a).length (bitsL n b).length with h | h
  · exact main a b ha hb ha0 hb0 hT h
  · exact (main b a hb ha hb0 ha0 hT.symm h).symm
end Go.Proofs.YtknlablmkcabkaaDoor.Til
