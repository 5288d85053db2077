/- A slice of numbers is cloned: new memory, the same numbers. -/
import Derived.Test.YtblfoijalcmfkaaAdd
import Derived.Shelf.Abstract
import Derived.Lib.SliceRun
namespace Go.Proofs.Ytblfoijalcmfkaa.Hand
open Go.RowKit Go.Shelf Go.Proofs.YtblfoijalcmfkaaW.PrintWords Go.Proofs.YtblfoijalcmfkaaW.PrintLast Go.Proofs.YtblfoijalcmfkaaW.PrintMore Go.Proofs.YtblfoijalcmfkaaHnd
set_option linter.unusedVariables false
set_option linter.unusedSimpArgs false

theorem eq_nil25 : ∀ (w : World) (a : Option Addr) (n c n' c' : Nat), (binOp .eql 25 (.slice a n c) (.slice none n' c')).run Try.prog w = .ok (.bool a.isNone) w := fun w a n c n' c' => Lib.run_eql_slice_nil w _ _ a n c n' c' Try.underlying25

set_option maxHeartbeats 400000 in
set_option maxRecDepth 100000 in
theorem clone_calls (A : Option Addr) (c : Nat) (l : List Int) (w : World) (hr : Kd.C (Kd.int .i64) w A l.length l) (hc : l.length ≤ c) (hl : l.length ≤ 1000000) :
    Calls Try.prog 25 #[.slice A l.length c] w fun e w' => ∃ v, e = .returned v ∧ Kd.R (Kd.int .i64) 3 w' w.heap.size (fun _ => True) v l ∧ Below w.heap.size w w' := by
  have q25 := eq_nil25
  cases A with
  | none =>
    have h0 : l = [] := by
      cases l with
      | nil => rfl
      | cons a b => obtain ⟨ad, e, _⟩ := hr.2.2 (by simp); cases e
    subst h0
    go_enter Try.func25, Try.ntmps25
    go_wp2
    go_ret
    exact ⟨_, rfl, Kd.R_nil _ _ _ _ _, Below.refl _ _⟩
  | some ad =>
    have HR := Aside0.mk hr
    clear hr
    go_enter Try.func25, Try.ntmps25
    go_wp2_with (at_builtin; refine Kd.R_append_row (w0 := w) (Value.int .i64) 0 (h1 := fun _ => rfl) w.heap.size rfl _ _ 25 3 (.int .i64 0) 8 rfl Try.underlying25 info3 rfl (by decide) (.slice (some ⟨w.heap.size, 0, none⟩) 0 0) [] l (some ad) l.length c (fun _ => True) rfl rfl (fun _ _ => trivial) ?c1 ?c2 ?c3 ?c4 (by simp; omega) ?c5)
    case c1 => exact Kd.R_of_own ⟨by simp [encs], .inr ⟨w.heap.size, 0, #[], rfl, Nat.le_refl _, blk_new w _, Nat.le_refl _, by decide, rfl, by simp [encs]⟩⟩ (fun _ _ => trivial)
    case c2 => exact Kd.C_alloc HR.out _
    case c3 => exact (Below.refl _ _).alloc (Nat.le_refl _) _
    case c4 => simp
    case c5 =>
      intro v1 w1 h1 h2 _ _
      go_wp2
      go_ret
      exact ⟨v1, rfl, h1, h2⟩

end Go.Proofs.Ytblfoijalcmfkaa.Hand
