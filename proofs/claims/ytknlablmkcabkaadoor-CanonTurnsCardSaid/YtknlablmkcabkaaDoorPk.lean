/- Of two rhythms that fill the circle each divisor is a root of one: looked through all pairs. -/
import Derived.Test.YtknlablmkcabkaaDoorPj
namespace Go.Proofs.YtknlablmkcabkaaDoor.Pa
open Go.RowKit QCanonConditions Til Go.Proofs.YtknlablmkcabkaaDoorW.PrintWords Go.Proofs.YtknlablmkcabkaaDoorW.PrintLast Go.Proofs.YtknlablmkcabkaaDoorW.PrintMore
set_option linter.unusedVariables false
set_option linter.unusedSimpArgs false

def orAll : List Bool → List Bool → Bool
  | x :: l, y :: m => Bool.or x y && orAll l m
  | _, _ => true
theorem orAll_map (f g : Nat → Bool) : ∀ ds : List Nat, orAll (ds.map f) (ds.map g) = true → ∀ s ∈ ds, f s = true ∨ g s = true := by
  intro ds
  induction ds with
  | nil => intro _ s hs; cases hs
  | cons d ds ih =>
    intro h s hs
    simp only [List.map_cons, orAll, Bool.and_eq_true] at h
    rcases List.mem_cons.mp hs with rfl | hs
    · simpa using h.1
    · exact ih h.2 s hs
noncomputable def fillOK (n : Nat) : Bool := (sizes n).all (leafAll n fun a b => orAll (zb n a) (zb n b))
theorem fill_20 : ((List.range 21).drop 2).all fillOK = true := by decide +kernel
theorem fill_23 : [21, 22, 23].all fillOK = true := by decide +kernel
theorem fill_24 : fillOK 24 = true := by decide +kernel
theorem fill_at (n : Nat) (h2 : 2 ≤ n) (hn : n ≤ 24) : fillOK n = true := by
  by_cases h : n ≤ 20
  · refine List.all_eq_true.mp fill_20 n ?_
    rw [List.mem_iff_getElem]
    exact ⟨n - 2, by simp; omega, by simp; omega⟩
  · by_cases h : n ≤ 23
    · exact List.all_eq_true.mp fill_23 n (by simp; omega)
    · obtain rfl : n = 24 := by omega
      exact fill_24
/-- Each divisor is a root of one of them. -/
theorem fill_roots (n a b : Nat) (h2 : 2 ≤ n) (hn : n ≤ 24) (ha : a < 2 ^ n) (hb : b < 2 ^ n) (ha0 : a.testBit 0 = true) (hb0 : b.testBit 0 = true) (hT : Tile n a b) (s : Nat) (hs : s ∈ divs n) : isR n (a : Int) s = true ∨ isR n (b : Int) s = true := by
  have main : ∀ a b : Nat, a < 2 ^ n → b < 2 ^ n → a.testBit 0 = true → b.testBit 0 = true → Tile n a b → (bitsL n a).length ≤ (bitsL n b).length → isR n (a : Int) s = true ∨ isR n (b : Int) s = true := by
    intro a b ha hb ha0 hb0 hT hle
    have h1 := List.all_eq_true.mp (fill_at n h2 hn) _ (sizes_mem hT (by omega) hle)
    have h3 := leafAll_ok (by omega) ha hb ha0 hb0 hT rfl h1
    rw [zb_eq n a h2 hn ha, zb_eq n b h2 hn hb] at h3
    exact orAll_map _ _ _ h3 s hs
  rcases Nat.le_total (bitsL n a).length (bitsL n b).length with h | h
  · exact main a b ha hb ha0 hb0 hT h
  · exact (main b a hb ha hb0 ha0 hT.symm h).symm
end Go.Proofs.YtknlablmkcabkaaDoor.Pa
