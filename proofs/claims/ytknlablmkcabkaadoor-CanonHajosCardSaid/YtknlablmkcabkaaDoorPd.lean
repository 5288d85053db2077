/- The roots of a rhythm: the program and the reference list the same ones. -/
import Derived.Test.YtknlablmkcabkaaDoorPc
namespace Go.Proofs.YtknlablmkcabkaaDoor.Pa
open Go.RowKit QCanonConditions Go.Proofs.YtknlablmkcabkaaDoorW.PrintWords Go.Proofs.YtknlablmkcabkaaDoorW.PrintLast Go.Proofs.YtknlablmkcabkaaDoorW.PrintMore
set_option linter.unusedVariables false
set_option linter.unusedSimpArgs false

def fillR (a : Int) : Nat → Nat → List Int → List Int
  | 0, _, f => f
  | m + 1, j, f => fillR a m (j + 1) (f.set j (Go.bits .and .i64 (shr .i64 a (j : Int)) 1))
theorem fillR_length (a : Int) : ∀ m j f, (fillR a m j f).length = f.length := by
  intro m
  induction m with
  | zero => intro j f; rfl
  | succ m ih => intro j f; rw [fillR, ih, List.length_set]
/-- The polynomial of a rhythm. -/
def pol (n : Nat) (a : Int) : List Int := fillR a n 0 (List.replicate n 0)
theorem pol_length (n : Nat) (a : Int) : (pol n a).length = n := by rw [pol, fillR_length, List.length_replicate]

theorem of_l0 (a : Int) (n : Nat) (hn : n ≤ 100) : ∀ m j f, j + m = n → f.length = n → Tot (fun k => canon_circle_of.l0 k a f (n : Int) (j : Int)) (fillR a m j f) := by
  intro m
  induction m with
  | zero =>
    intro j f hj hf
    refine ⟨1, fun k hk => ?_⟩
    obtain ⟨k, rfl⟩ : ∃ k', k = k' + 1 := ⟨k - 1, by omega⟩
    simp only [canon_circle_of.l0]
    rw [if_neg (by omega)]
    rfl
  | succ m ih =>
    intro j f hj hf
    refine (ih (j + 1) (f.set j (Go.bits .and .i64 (shr .i64 a (j : Int)) 1)) (by omega) (by simpa using hf)).succ (fun k => ?_)
    simp only [canon_circle_of.l0]
    rw [if_pos (by omega), if_pos (by omega), if_pos (by omega), w64 ((j : Int) + 1) (by omega) (by omega)]
    rfl
theorem of_tot (a : Int) (n : Nat) (hn : n ≤ 100) : Tot (fun k => canon_circle_of.f k (n : Int) a) (pol n a) := by
  refine (of_l0 a n hn n 0 (List.replicate n 0) (by omega) (by simp)).eq (fun k => ?_)
  unfold canon_circle_of.f
  simp only [Int.toNat_natCast, Option.bind_some, List.length_replicate]
  rw [if_pos (by omega), if_pos (by omega)]
  rfl

/-- Is s a root? -/
def isR (n : Nat) (a : Int) (s : Nat) : Bool := left0 (pol n a) (cyc s)

/-- The roots from s on. -/
def rl (n : Nat) (z : Nat → Bool) : Nat → Nat → List Int
  | 0, _ => []
  | m + 1, s => if n % s = 0 ∧ z s = true then (s : Int) :: rl n z m (s + 1) else rl n z m (s + 1)
theorem rl_length (n : Nat) (z : Nat → Bool) : ∀ m s, (rl n z m s).length ≤ m := by
  intro m
  induction m with
  | zero => intro s; simp [rl]
  | succ m ih =>
    intro s
    rw [rl]
    split
    · have := ih (s + 1); simp; omega
    · have := ih (s + 1); omega
theorem tmod_nat (n s : Nat) : Int.tmod (n : Int) (s : Int) = ((n % s : Nat) : Int) := rfl

theorem roots_l0 (a : Int) (n : Nat) (h1 : n ≤ 24) : ∀ m s x, s + m = n + 1 → 2 ≤ s → x.length + m ≤ 1000 → Tot (fun k => canon_circle_roots.l0 k (n : Int) a x (s : Int)) (x ++ rl n (isR n a) m s) := by
  intro m
  induction m with
  | zero =>
    intro s x hs h2 hx
    refine ⟨1, fun k hk => ?_⟩
    obtain ⟨k, rfl⟩ : ∃ k', k = k' + 1 := ⟨k - 1, by omega⟩
    simp only [canon_circle_roots.l0]
    rw [if_neg (by omega)]
    simp [rl]
  | succ m ih =>
    intro s x hs h2 hx
    have hw : wrap64 ((s : Int) + 1) = ((s + 1 : Nat) : Int) := by rw [w64 _ (by omega) (by omega)]; rfl
    by_cases hd : n % s = 0
    · obtain ⟨c0, c1, c2, c3⟩ := cyc_at s h2 (by omega)
      obtain ⟨q, r, ho, hz⟩ := over_zero (pol n a) (cyc s) ((cyc s).length - 1) (by omega) (by omega) (by rw [pol_length]; omega) (by rw [pol_length]; omega) c3
      have main : Tot (fun k => canon_circle_roots.l0 k (n : Int) a (if isR n a s = true then x ++ [(s : Int)] else x) ((s + 1 : Nat) : Int)) (x ++ rl n (isR n a) (m + 1) s) := by
        rw [rl]
        by_cases hr : isR n a s = true
        · rw [if_pos hr, if_pos ⟨hd, hr⟩]
          have := ih (s + 1) (x ++ [(s : Int)]) (by omega) (by omega) (by simp; omega)
          rwa [List.append_assoc] at this
        · rw [if_neg hr, if_neg (fun h => hr h.2)]
          exact ih (s + 1) x (by omega) (by omega) (by omega)
      obtain ⟨K1, h1'⟩ := of_tot a n (by omega)
      obtain ⟨K2, h2'⟩ := c0
      obtain ⟨K3, h3'⟩ := ho
      obtain ⟨K4, h4'⟩ := main
      dsimp only at h1' h2' h3' h4'
      refine ⟨max (max K1 K2) (max K3 K4) + 1, fun k hk => ?_⟩
      obtain ⟨k, rfl⟩ : ∃ k', k = k' + 1 := ⟨k - 1, by omega⟩
      simp only [canon_circle_roots.l0]
      rw [if_pos (by omega), if_neg (by omega), tmod_nat, hd, if_pos (show ((0 : Nat) : Int) = 0 from rfl), h1' k (by omega), Option.bind_some, h2' k (by omega), Option.bind_some, h3' k (by omega), Option.bind_some, hz, Option.bind_some, hw]
      have h4 := h4' k (by omega)
      by_cases hr : isR n a s = true
      · rw [if_pos hr] at h4
        rw [show left0 (pol n a) (cyc s) = true from hr, if_pos rfl, if_pos (by omega)]
        exact h4
      · rw [if_neg hr] at h4
        rw [show left0 (pol n a) (cyc s) = false from by simpa [isR] using hr, if_neg (by simp)]
        exact h4
    · refine (ih (s + 1) x (by omega) (by omega) (by omega)).elim (fun K hK => ?_)
      rw [rl, if_neg (fun h => hd h.1)]
      refine ⟨K + 1, fun k hk => ?_⟩
      obtain ⟨k, rfl⟩ : ∃ k', k = k' + 1 := ⟨k - 1, by omega⟩
      simp only [canon_circle_roots.l0]
      rw [if_pos (by omega), if_neg (by omega), tmod_nat, if_neg (by omega), hw]
      exact hK k (by omega)

/-- All roots. -/
def rootsL (n : Nat) (z : Nat → Bool) : List Int := rl n z (n - 1) 2
theorem roots_tot (a : Int) (n : Nat) (h1 : n ≤ 24) (h2 : 2 ≤ n) : Tot (fun k => canon_circle_roots.f k (n : Int) a) (rootsL n (isR n a)) := by
  have := roots_l0 a n h1 (n - 1) 2 [] (by omega) (by omega) (by simp; omega)
  exact this

end Go.Proofs.YtknlablmkcabkaaDoor.Pa
