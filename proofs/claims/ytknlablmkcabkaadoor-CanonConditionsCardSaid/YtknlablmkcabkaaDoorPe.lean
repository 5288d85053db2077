/- The second condition: at every list of divisors that can be the roots, the program's search and the reference's products tell the same. -/
import Derived.Test.YtknlablmkcabkaaDoorPd
namespace Go.Proofs.YtknlablmkcabkaaDoor.Pa
open Go.RowKit QCanonConditions Go.Proofs.YtknlablmkcabkaaDoorW.PrintWords Go.Proofs.YtknlablmkcabkaaDoorW.PrintLast Go.Proofs.YtknlablmkcabkaaDoorW.PrintMore
set_option linter.unusedVariables false
set_option linter.unusedSimpArgs false

/-- All lists that can be the roots. -/
def rlAll (n : Nat) : Nat → Nat → List (List Int)
  | 0, _ => [[]]
  | m + 1, s => if n % s = 0 then (rlAll n m (s + 1)).map ((s : Int) :: ·) ++ rlAll n m (s + 1) else rlAll n m (s + 1)
theorem rl_mem (n : Nat) (z : Nat → Bool) : ∀ m s, rl n z m s ∈ rlAll n m s := by
  intro m
  induction m with
  | zero => intro s; simp [rl, rlAll]
  | succ m ih =>
    intro s
    rw [rl, rlAll]
    by_cases hd : n % s = 0
    · rw [if_pos hd]
      by_cases hz : z s = true
      · rw [if_pos ⟨hd, hz⟩]
        exact List.mem_append_left _ (List.mem_map.mpr ⟨_, ih _, rfl⟩)
      · rw [if_neg (fun h => hz h.2)]
        exact List.mem_append_right _ (ih _)
    · rw [if_neg hd, if_neg (fun h => hd h.1)]
      exact ih _
theorem rl_has (n : Nat) (z : Nat → Bool) : ∀ m s (x : Nat), s ≤ x → x < s + m → n % x = 0 → ((x : Int) ∈ rl n z m s ↔ z x = true) := by
  intro m
  induction m with
  | zero => intro s x h1 h2; omega
  | succ m ih =>
    have hlow : ∀ m s (x : Nat), x < s → ¬ (x : Int) ∈ rl n z m s := by
      intro m
      induction m with
      | zero => intro s x h; simp [rl]
      | succ m ih =>
        intro s x h
        rw [rl]
        split
        · simp only [List.mem_cons, not_or]
          exact ⟨by omega, ih _ _ (by omega)⟩
        · exact ih _ _ (by omega)
    intro s x h1 h2 hx
    rw [rl]
    by_cases e : x = s
    · subst e
      by_cases hz : z x = true
      · rw [if_pos ⟨hx, hz⟩]; simp [hz]
      · rw [if_neg (fun h => hz h.2)]
        exact ⟨fun h => absurd h (hlow _ _ _ (by omega)), fun h => absurd h hz⟩
    · have := ih (s + 1) x (by omega) (by omega) hx
      split
      · simp only [List.mem_cons]
        rw [this]
        constructor
        · rintro (h | h)
          · omega
          · exact h
        · exact .inr
      · exact this

end Go.Proofs.YtknlablmkcabkaaDoor.Pa
