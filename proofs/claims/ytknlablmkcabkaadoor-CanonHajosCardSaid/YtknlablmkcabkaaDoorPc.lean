/- The polynomials of the primitive roots of 1, of orders up to 24: what the program and the reference compute. -/
import Derived.Test.YtknlablmkcabkaaDoorPb
import Derived.KernelRfl
namespace Go.Proofs.YtknlablmkcabkaaDoor.Pa
open Go.RowKit QCanonConditions Go.Proofs.YtknlablmkcabkaaDoorW.PrintWords Go.Proofs.YtknlablmkcabkaaDoorW.PrintLast Go.Proofs.YtknlablmkcabkaaDoorW.PrintMore
set_option linter.unusedVariables false
set_option linter.unusedSimpArgs false

def cycT : List (List Int) := [[],
  [-1, 1],
  [1, 1],
  [1, 1, 1],
  [1, 0, 1],
  [1, 1, 1, 1, 1],
  [1, -1, 1],
  [1, 1, 1, 1, 1, 1, 1],
  [1, 0, 0, 0, 1],
  [1, 0, 0, 1, 0, 0, 1],
  [1, -1, 1, -1, 1],
  [1, 1, 1, 1, 1, 1, 1, 1, 1, 1, 1],
  [1, 0, -1, 0, 1],
  [1, 1, 1, 1, 1, 1, 1, 1, 1, 1, 1, 1, 1],
  [1, -1, 1, -1, 1, -1, 1],
  [1, -1, 0, 1, -1, 1, 0, -1, 1],
  [1, 0, 0, 0, 0, 0, 0, 0, 1],
  [1, 1, 1, 1, 1, 1, 1, 1, 1, 1, 1, 1, 1, 1, 1, 1, 1],
  [1, 0, 0, -1, 0, 0, 1],
  [1, 1, 1, 1, 1, 1, 1, 1, 1, 1, 1, 1, 1, 1, 1, 1, 1, 1, 1],
  [1, 0, -1, 0, 1, 0, -1, 0, 1],
  [1, -1, 0, 1, -1, 0, 1, 0, -1, 1, 0, -1, 1],
  [1, -1, 1, -1, 1, -1, 1, -1, 1, -1, 1],
  [1, 1, 1, 1, 1, 1, 1, 1, 1, 1, 1, 1, 1, 1, 1, 1, 1, 1, 1, 1, 1, 1, 1],
  [1, 0, 0, 0, -1, 0, 0, 0, 1]]
def cyc (s : Nat) : List Int := cycT.getD s []

theorem cyc_one : ((List.range 25).drop 2).all (fun s => canon_cyclotomic.f 1000 (s : Int) == some (cyc s)) = true := by decide +kernel
theorem cyc_form : ((List.range 25).drop 2).all (fun s => decide (2 ≤ (cyc s).length) && decide ((cyc s).length ≤ s + 1) && (rd (cyc s) (((cyc s).length - 1 : Nat) : Int) == 1)) = true := by decide +kernel
theorem cyc_at (s : Nat) (h2 : 2 ≤ s) (h : s ≤ 24) : Tot (fun k => canon_cyclotomic.f k (s : Int)) (cyc s) ∧ 2 ≤ (cyc s).length ∧ (cyc s).length ≤ s + 1 ∧ rd (cyc s) (((cyc s).length - 1 : Nat) : Int) = 1 := by
  have hm : s ∈ (List.range 25).drop 2 := by
    rw [List.mem_iff_getElem]
    exact ⟨s - 2, by simp; omega, by simp; omega⟩
  have h1 := List.all_eq_true.mp cyc_one s hm
  have h3 := List.all_eq_true.mp cyc_form s hm
  simp only [Bool.and_eq_true, beq_iff_eq, decide_eq_true_eq] at h1 h3
  exact ⟨Tot.mono (fun k => canon_cyclotomic.mono _ k) h1, h3.1.1, h3.1.2, h3.2⟩

end Go.Proofs.YtknlablmkcabkaaDoor.Pa
