/- The second condition: at every list of divisors that can be the roots, the program's search and the reference's products tell the same. -/
import Derived.Test.YtknlablmkcabkaaPd
namespace Go.Proofs.Ytknlablmkcabkaa.Pa
open Go.RowKit QCanonRoots sec Go.Proofs.YtknlablmkcabkaaW.PrintWords Go.Proofs.YtknlablmkcabkaaW.PrintLast Go.Proofs.YtknlablmkcabkaaW.PrintMore
set_option linter.unusedVariables false
set_option linter.unusedSimpArgs false

/-- All lists that can be the roots. -/
def rlAll (n : Nat) : Nat → Nat → List (List Int)
  | 0, _ => [[]]
  | m + 1, s => if n % s = 0 then (rlAll n m (s + 1)).map ((s : Int) :: ·) ++ rlAll n m (s + 1) else rlAll n m (s + 1)
theorem rl_mem (n : Nat) (z : Nat → Bool) : ∀ m s, rl n z m s ∈ rlAll n m s := by
  intro m
  induction m with
  | zero => intro s; simp [rl, rlAll]
  | succ m ih =>
    intro s
    rw [rl, rlAll]
    by_cases hd : n % s = 0
    · rw [if_pos hd]
      by_cases hz : z s = true
      · rw [if_pos ⟨hd, hz⟩]
        exact List.mem_append_left _ (List.mem_map.mpr ⟨_, ih _, rfl⟩)
      · rw [if_neg (fun h => hz h.2)]
        exact List.mem_append_right _ (ih _)
    · rw [if_neg hd, if_neg (fun h => hd h.1)]
      exact ih _
theorem rl_has (n : Nat) (z : Nat → Bool) : ∀ m s (x : Nat), s ≤ x → x < s + m → n % x = 0 → ((x : Int) ∈ rl n z m s ↔ z x = true) := by
  intro m
  induction m with
  | zero => intro s x h1 h2; omega
  | succ m ih =>
    have hlow : ∀ m s (x : Nat), x < s → ¬ (x : Int) ∈ rl n z m s := by
      intro m
      induction m with
      | zero => intro s x h; simp [rl]
      | succ m ih =>
        intro s x h
        rw [rl]
        split
        · simp only [List.mem_cons, not_or]
          exact ⟨by omega, ih _ _ (by omega)⟩
        · exact ih _ _ (by omega)
    intro s x h1 h2 hx
    rw [rl]
    by_cases e : x = s
    · subst e
      by_cases hz : z x = true
      · rw [if_pos ⟨hx, hz⟩]; simp [hz]
      · rw [if_neg (fun h => hz h.2)]
        exact ⟨fun h => absurd h (hlow _ _ _ (by omega)), fun h => absurd h hz⟩
    · have := ih (s + 1) x (by omega) (by omega) hx
      split
      · simp only [List.mem_cons]
        rw [this]
        constructor
        · rintro (h | h)
          · omega
          · exact h
        · exact .inr
      · exact this

noncomputable def prods' (L : List Int) (n : Int) : Nat → Int → List Int → Option (List Int)
  | 0, _, _ => none
  | m + 1, p, ps => if p ≤ n then (inner 100 p ps L ps).bind fun ps' => prods' L n m (wrap64 (p + 1)) ps' else some ps
theorem prods_eq (L : List Int) (n a : Int) (h : lim (fun q => sackbutref02_Roots.f q n a) = some L) : ∀ m p ps, prods 100 n a m p ps = prods' L n m p ps := by
  intro m
  induction m with
  | zero => intro p ps; rfl
  | succ m ih =>
    intro p ps
    rw [prods, prods', h]
    simp only [Option.bind_some, ih]
theorem check_eq (n : Nat) (a : Int) (L : List Int) (hn : n ≤ 24) (hL : ∀ x : Nat, 2 ≤ x → x ≤ n → n % x = 0 → ((x : Int) ∈ L ↔ isR n a x = true)) : ∀ full : List Int, (∀ x ∈ full, 1 ≤ x ∧ x ≤ (n : Int) ∧ Int.tmod n x = 0) → check 100 n a full = some (full.all fun x => !decide (1 < x) || decide (x ∈ L)) := by
  intro full
  induction full with
  | nil => intro _; rfl
  | cons x l ih =>
    intro h
    have h1 := h x (by simp)
    have h2 := ih (fun y hy => h y (by simp [hy]))
    rw [check, List.all_cons]
    by_cases hx : 1 < x
    · obtain ⟨y, rfl⟩ : ∃ y : Nat, x = y := ⟨x.toNat, by omega⟩
      have hd : n % y = 0 := by have := h1.2.2; rw [tmod_nat] at this; omega
      rw [if_pos hx, (isroot_tot a n y (by omega) (by omega) (by omega) (by omega)).lim (fun k => sackbutref02_IsRoot.mono _ _ _ k), Option.bind_some]
      have h3 := hL y (by omega) (by omega) hd
      by_cases hr : isR n a y = true
      · rw [if_pos hr, h2, decide_eq_true (h3.mpr hr)]
        simp
      · rw [if_neg hr, decide_eq_false (fun h => hr (h3.mp h)), decide_eq_true hx]
        simp
    · rw [if_neg hx, h2, decide_eq_false hx]
      simp

/-- The two searches tell the same at n and L. -/
noncomputable def secOK (n : Nat) (L : List Int) : Bool := match prods' L (n : Int) 100 2 [1] with
  | some full => full.all (fun x => decide (1 ≤ x) && decide (x ≤ (n : Int)) && decide (Int.tmod n x = 0)) && decide (full.length ≤ 1000000) && (holds2.f 100 L 0 1 == some (full.all fun x => !decide (1 < x) || decide (x ∈ L)))
  | none => false
theorem sec_all : ((List.range 25).drop 2).all (fun n => (rlAll n (n - 1) 2).all (secOK n)) = true := by decide +kernel

theorem second_same (n : Nat) (a : Int) (h2 : 2 ≤ n) (hn : n ≤ 24) : ∃ b, canon_circle_second.f (n : Int) a = some b ∧ sackbutref02_Second.f (n : Int) a = some b := by
  have hm : n ∈ (List.range 25).drop 2 := by
    rw [List.mem_iff_getElem]
    exact ⟨n - 2, by simp; omega, by simp; omega⟩
  have h1 := List.all_eq_true.mp (List.all_eq_true.mp sec_all n hm) (rootsL n (isR n a)) (rl_mem n _ _ _)
  have hl := (roots_tot a n hn h2).lim (fun k => canon_circle_roots.mono _ _ k)
  have hl' := (refroots_tot a n hn h2).lim (fun k => sackbutref02_Roots.mono _ _ k)
  have hL : ∀ x : Nat, 2 ≤ x → x ≤ n → n % x = 0 → ((x : Int) ∈ rootsL n (isR n a) ↔ isR n a x = true) := fun x hx1 hx2 hx3 => rl_has n _ _ 2 x hx1 (by omega) hx3
  have hlen : (rootsL n (isR n a)).length ≤ 1000000 := by have := rl_length n (isR n a) (n - 1) 2; unfold rootsL; omega
  generalize rootsL n (isR n a) = L at *
  unfold secOK at h1
  split at h1
  case h_2 => cases h1
  case h_1 full hfull =>
    simp only [Bool.and_eq_true, beq_iff_eq, decide_eq_true_eq, List.all_eq_true] at h1
    refine ⟨full.all fun x => !decide (1 < x) || decide (x ∈ L), ?_, ?_⟩
    · unfold canon_circle_second.f
      rw [hl, Option.bind_some, if_pos hlen]
      exact h1.2
    · unfold sackbutref02_Second.f
      rw [prods_eq L _ _ hl', hfull, Option.bind_some, if_pos h1.1.2]
      exact check_eq n a L hn hL full (fun x hx => by have := h1.1.1 x hx; exact ⟨this.1.1, this.1.2, this.2⟩)

end Go.Proofs.Ytknlablmkcabkaa.Pa
