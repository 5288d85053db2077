/- The first condition: the program and the reference tell the same, if they count the beats alike. -/
import Derived.Test.YtknlablmkcabkaaPe
namespace Go.Proofs.Ytknlablmkcabkaa.Pa
open Go.RowKit QCanonRoots sec Go.Proofs.YtknlablmkcabkaaW.PrintWords Go.Proofs.YtknlablmkcabkaaW.PrintLast Go.Proofs.YtknlablmkcabkaaW.PrintMore
set_option linter.unusedVariables false
set_option linter.unusedSimpArgs false

theorem prime_base : ((List.range 25).drop 2).all (fun s => match canon_prime.f 100 (s : Int) with | some p => sackbutref02_base.f 100 (s : Int) == some p && decide (0 ≤ p) && decide (p ≤ 24) | none => false) = true := by decide +kernel
theorem prime_at (s : Nat) (h2 : 2 ≤ s) (h : s ≤ 24) : ∃ p : Nat, p ≤ 24 ∧ Tot (fun k => canon_prime.f k (s : Int)) p ∧ Tot (fun k => sackbutref02_base.f k (s : Int)) p := by
  have hm : s ∈ (List.range 25).drop 2 := by
    rw [List.mem_iff_getElem]
    exact ⟨s - 2, by simp; omega, by simp; omega⟩
  have h1 := List.all_eq_true.mp prime_base s hm
  split at h1
  · rename_i p hp
    simp only [Bool.and_eq_true, beq_iff_eq, decide_eq_true_eq] at h1
    obtain ⟨q, rfl⟩ : ∃ q : Nat, p = q := ⟨p.toNat, by omega⟩
    exact ⟨q, by omega, Tot.mono (fun k => canon_prime.mono _ k) hp, Tot.mono (fun k => sackbutref02_base.mono _ k) h1.1.1⟩
  · cases h1
theorem rl_in (n : Nat) (z : Nat → Bool) : ∀ m s x, x ∈ rl n z m s → ∃ y : Nat, x = y ∧ s ≤ y ∧ y < s + m := by
  intro m
  induction m with
  | zero => intro s x h; simp [rl] at h
  | succ m ih =>
    intro s x h
    rw [rl] at h
    split at h
    · rcases List.mem_cons.mp h with rfl | h
      · exact ⟨s, rfl, by omega, by omega⟩
      · obtain ⟨y, e, h1, h2⟩ := ih _ _ h
        exact ⟨y, e, by omega, by omega⟩
    · obtain ⟨y, e, h1, h2⟩ := ih _ _ h
      exact ⟨y, e, by omega, by omega⟩

theorem first_l0 (a c : Int) (hc : canon_count.f a = some c) (hs : Tot (fun k => sackbutref02_Size.f k a) c) (L : List Int) (hL : ∀ x ∈ L, ∃ y : Nat, x = y ∧ 2 ≤ y ∧ y ≤ 24) (hlen : L.length ≤ 1000) : ∀ m j, j + m = L.length → ∀ x,
    ∃ b, Tot (fun k => canon_circle_first.l0 k a x L (L.length : Int) (j : Int)) b ∧ Tot (fun k => sackbutref02_First.l0 k a x L (L.length : Int) (j : Int)) b := by
  intro m
  induction m with
  | zero =>
    intro j hj x
    refine ⟨x == c, ⟨1, fun k hk => ?_⟩, (hs.bind (H := fun _ t => some (x == t)) (Tot.of fun _ => rfl)).succ (fun k => ?_)⟩
    · obtain ⟨k, rfl⟩ : ∃ k', k = k' + 1 := ⟨k - 1, by omega⟩
      simp only [canon_circle_first.l0]
      rw [if_neg (by omega), hc, Option.bind_some]
    · simp only [sackbutref02_First.l0]
      rw [if_neg (by omega)]
  | succ m ih =>
    intro j hj x
    obtain ⟨y, hy, h2, h3⟩ := hL (rd L (j : Int)) (by simp [rd, List.getD, List.getElem?_eq_getElem (show j < L.length by omega)])
    obtain ⟨p, hp, ⟨K1, h1⟩, ⟨K2, h1'⟩⟩ := prime_at y h2 h3
    obtain ⟨b, ⟨K3, h4⟩, ⟨K4, h4'⟩⟩ := ih (j + 1) (by omega) (if (p : Int) > 0 then wrap64 (x * p) else x)
    have hw : wrap64 ((j : Int) + 1) = ((j + 1 : Nat) : Int) := by rw [w64 _ (by omega) (by omega)]; rfl
    dsimp only at h1 h1' h4 h4'
    refine ⟨b, ⟨max K1 K3 + 1, fun k hk => ?_⟩, ⟨max K2 K4 + 1, fun k hk => ?_⟩⟩
    · obtain ⟨k, rfl⟩ : ∃ k', k = k' + 1 := ⟨k - 1, by omega⟩
      have h5 := h4 k (by omega)
      simp only [canon_circle_first.l0]
      rw [if_pos (by omega), if_pos (by omega), if_pos (by omega), hy, h1 k (by omega), Option.bind_some, hw]
      by_cases hp0 : (p : Int) > 0
      · rw [if_pos hp0] at h5 ⊢; exact h5
      · rw [if_neg hp0] at h5 ⊢; exact h5
    · obtain ⟨k, rfl⟩ : ∃ k', k = k' + 1 := ⟨k - 1, by omega⟩
      have h5 := h4' k (by omega)
      simp only [sackbutref02_First.l0]
      rw [if_pos (by omega), if_pos (by omega), if_pos (by omega), hy, h1' k (by omega), Option.bind_some, hw]
      by_cases hp0 : (p : Int) > 0
      · rw [if_pos hp0] at h5 ⊢; exact h5
      · rw [if_neg hp0] at h5 ⊢; exact h5
theorem first_same (n : Nat) (a c : Int) (h2 : 2 ≤ n) (hn : n ≤ 24) (hc : canon_count.f a = some c) (hs : Tot (fun k => sackbutref02_Size.f k a) c) :
    ∃ b, Tot (fun k => canon_circle_first.f k (n : Int) a) b ∧ Tot (fun k => sackbutref02_First.f k (n : Int) a) b := by
  have hlen : (rootsL n (isR n a)).length ≤ 1000 := by have := rl_length n (isR n a) (n - 1) 2; unfold rootsL; omega
  obtain ⟨b, h1, h3⟩ := first_l0 a c hc hs (rootsL n (isR n a)) (fun x hx => by obtain ⟨y, e, h5, h6⟩ := rl_in n _ _ _ x hx; exact ⟨y, e, h5, by omega⟩) hlen (rootsL n (isR n a)).length 0 (by omega) 1
  exact ⟨b, (roots_tot a n hn h2).bind (H := fun k t => canon_circle_first.l0 k a 1 t (t.length : Int) 0) h1, (refroots_tot a n hn h2).bind (H := fun k t => sackbutref02_First.l0 k a 1 t (t.length : Int) 0) h3⟩

end Go.Proofs.Ytknlablmkcabkaa.Pa
