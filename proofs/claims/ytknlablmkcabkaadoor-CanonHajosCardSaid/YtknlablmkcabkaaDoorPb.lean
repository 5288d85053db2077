/- What is left of a division by a polynomial with last coefficient 1: nothing at its degree and above; the program and the reference tell the same. -/
import Derived.Test.YtknlablmkcabkaaDoorPa
namespace Go.Proofs.YtknlablmkcabkaaDoor.Pa
open Go.RowKit QCanonConditions Go.Proofs.YtknlablmkcabkaaDoorW.PrintWords Go.Proofs.YtknlablmkcabkaaDoorW.PrintLast Go.Proofs.YtknlablmkcabkaaDoorW.PrintMore
set_option linter.unusedVariables false
set_option linter.unusedSimpArgs false

def all0 (f : List Int) : Bool := f.all (· == 0)

theorem rd_set_ne (f : List Int) (i t : Nat) (x : Int) (h : t ≠ i) : rd (f.set i x) (t : Int) = rd f (t : Int) := by
  simp only [rd, Int.toNat_natCast, List.getD, List.getElem?_set_ne (Ne.symm h)]
theorem rd_set_eq (f : List Int) (i : Nat) (x : Int) (h : i < f.length) : rd (f.set i x) (i : Int) = x := by
  simp [rd, List.getD, h]
theorem inn_far (g : List Int) (off : Nat) (c : Int) : ∀ m j f (t : Nat), off + j + m ≤ t → rd (inn g off c m j f) (t : Int) = rd f (t : Int) := by
  intro m
  induction m with
  | zero => intro j f t h; rfl
  | succ m ih =>
    intro j f t h
    rw [inn, ih (j + 1) _ t (by omega), rd_set_ne _ _ _ _ (by omega)]
theorem inn_last (g : List Int) (off : Nat) (c : Int) (d : Nat) : ∀ m j f, j + m = d → off + d < f.length → rd (inn g off c (m + 1) j f) ((off + d : Nat) : Int) = wrap64 (rd f ((off + d : Nat) : Int) - wrap64 (c * rd g (d : Int))) := by
  intro m
  induction m with
  | zero =>
    intro j f hj hf
    obtain rfl : j = d := by omega
    rw [inn, inn, rd_set_eq _ _ _ hf]
  | succ m ih =>
    intro j f hj hf
    rw [inn, ih (j + 1) _ (by omega) (by simpa using hf), rd_set_ne _ _ _ _ (by omega)]
theorem outr_far (g : List Int) (d : Nat) : ∀ m f (t : Nat), d + m ≤ t → rd (outr g d m f) (t : Int) = rd f (t : Int) := by
  intro m
  induction m with
  | zero => intro f t h; rfl
  | succ m ih => intro f t h; rw [outr, ih _ t (by omega), inn_far _ _ _ _ _ _ _ (by omega)]
theorem wrap_self (c : Int) : wrap64 (c - wrap64 c) = 0 := by unfold wrap64; omega
theorem outr_zero (g : List Int) (d : Nat) (hg : rd g (d : Int) = 1) : ∀ m f, d + m ≤ f.length → ∀ t : Nat, d ≤ t → t < d + m → rd (outr g d m f) (t : Int) = 0 := by
  intro m
  induction m with
  | zero => intro f hf t h1 h2; omega
  | succ m ih =>
    intro f hf t h1 h2
    rw [outr]
    by_cases h : t < d + m
    · exact ih _ (by rw [inn_length]; omega) t h1 h
    · obtain rfl : t = d + m := by omega
      rw [outr_far _ _ _ _ _ (by omega), show ((d + m : Nat) : Int) = ((m + d : Nat) : Int) from by omega, inn_last g m _ d d 0 f (by omega) (by omega), hg, Int.mul_one]
      exact wrap_self _
theorem all0_take (f : List Int) (d : Nat) (h : ∀ t : Nat, d ≤ t → t < f.length → rd f (t : Int) = 0) : all0 (f.take d) = all0 f := by
  have e : f = f.take d ++ f.drop d := (List.take_append_drop d f).symm
  have hz : all0 (f.drop d) = true := by
    unfold all0
    rw [List.all_eq_true]
    intro x hx
    obtain ⟨i, hi, rfl⟩ := List.mem_iff_getElem.mp hx
    rw [List.length_drop] at hi
    have := h (d + i) (by omega) (by omega)
    simp only [rd, Int.toNat_natCast, List.getD] at this
    rw [List.getElem?_eq_getElem (by omega)] at this
    simpa using this
  conv => rhs; rw [e]
  unfold all0 at hz ⊢
  rw [List.all_append, hz, Bool.and_true]

/-- Is nothing left when f is divided by g? -/
def left0 (f g : List Int) : Bool := all0 (outr g (g.length - 1) (f.length - (g.length - 1)) f)

theorem over_zero (f g : List Int) (d : Nat) (hd : g.length = d + 1) (h1 : 1 ≤ d) (hf : d ≤ f.length) (hfb : f.length ≤ 500) (hg : rd g (d : Int) = 1) :
    ∃ q r, Tot (fun k => canon_polynomial_over.f k f g) (q, r) ∧ canon_polynomial_zero.f r = some (left0 f g) := by
  obtain ⟨q, hq⟩ := over_l0 g d hd f.length (by omega) hf (f.length - d) [] f (by omega) rfl (by simp; omega)
  refine ⟨q, (outr g d (f.length - d) f).take d, ?_, ?_⟩
  · refine hq.eq (fun k => ?_)
    unfold canon_polynomial_over.f canon_polynomial_int_82.f
    rw [if_pos (by omega), Option.bind_some, w64 _ (by omega) (by omega), w64 _ (by omega) (by omega), show ((g.length : Int) - 1) = (d : Int) from by omega, show ((f.length : Int) - 1) = (d : Int) + ((f.length - d : Nat) : Int) - 1 from by omega]
  · have hl : ((outr g d (f.length - d) f).take d).length ≤ 1000000 := by rw [List.length_take, outr_length]; omega
    unfold canon_polynomial_zero.f
    rw [if_pos hl]
    have e : (!((outr g d (f.length - d) f).take d).any (· != 0)) = all0 ((outr g d (f.length - d) f).take d) := by
      unfold all0
      rw [List.not_any_eq_all_not]
      congr 1
      funext x
      simp [bne]
    rw [e, all0_take _ _ (fun t h2 h3 => outr_zero g d hg _ f (by omega) t h2 (by rw [outr_length] at h3; omega))]
    unfold left0
    rw [hd]
    rfl
end Go.Proofs.YtknlablmkcabkaaDoor.Pa
