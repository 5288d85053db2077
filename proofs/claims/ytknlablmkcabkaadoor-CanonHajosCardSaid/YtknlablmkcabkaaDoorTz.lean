/- The number of the lowest bit: the library's table is a package variable whose numbers are known when the call begins. -/
import Derived.Test.YtknlablmkcabkaaDoorHnd
import Derived.Test.YtknlablmkcabkaaDoorProg
import Derived.Tactics
import Derived.WalkKit
import Derived.KernelRfl
import Derived.Laws.BitsLemmas
namespace Go.Proofs.YtknlablmkcabkaaDoor
open Go.RowKit Go.Proofs.YtknlablmkcabkaaDoorW.PrintWords Go.Proofs.YtknlablmkcabkaaDoorW.PrintLast Go.Proofs.YtknlablmkcabkaaDoorW.PrintMore Go.Proofs.YtknlablmkcabkaaDoorHnd
set_option linter.unusedVariables false
set_option linter.unusedSimpArgs false

def debT : List Int := [0, 1, 56, 2, 57, 49, 28, 3, 61, 58, 42, 50, 38, 29, 17, 4, 62, 47, 59, 36, 45, 43, 51, 22, 53, 39, 33, 30, 24, 18, 12, 5, 63, 55, 48, 27, 60, 41, 37, 16, 46, 35, 44, 21, 52, 32, 23, 11, 54, 26, 40, 15, 34, 20, 31, 10, 25, 14, 19, 9, 13, 8, 7, 6]
/-- The table lies where the program reads it. -/
def Deb (w : World) : Prop := ∀ i, i < 64 → w.cell? ⟨1, i, none⟩ = some (.int .u8 (debT.getD i 0))
theorem Deb.kept {w w' : World} (h : Deb w) (hk : w'.heap[1]? = w.heap[1]?) : Deb w' := fun i hi => (World.cell?_of_block (a := ⟨1, i, none⟩) hk).trans (h i hi)
theorem Deb.lt {w : World} (h : Deb w) : 1 < w.heap.size := World.block_lt_of_cell? w _ (h 0 (by decide))
theorem Deb.below {w w' : World} (h : Deb w) (hb : Below w.heap.size w w') : Deb w' := h.kept (hb.block 1 h.lt)

theorem land_split1 (b d : Nat) (p q : Nat) (hp : p < 2) (hq : q < 2) : (2 * b + p) &&& (2 * d + q) = 2 * (b &&& d) + (p &&& q) := by
  apply Nat.eq_of_testBit_eq
  intro j
  have hac : p &&& q < 2 ^ 1 := Nat.lt_of_le_of_lt Nat.and_le_left hp
  have h1 := Nat.testBit_two_pow_mul_add (i := 1) b (b := p) hp j
  have h2 := Nat.testBit_two_pow_mul_add (i := 1) d (b := q) hq j
  have h3 := Nat.testBit_two_pow_mul_add (i := 1) (b &&& d) (b := p &&& q) hac j
  rw [Nat.pow_one] at h1 h2 h3
  rw [Nat.testBit_and, h1, h2, h3]
  split <;> simp
theorem compl_and (f h : Nat) (hh : h < 2 ^ f) : h &&& (2 ^ f - 1 - h) = 0 := by
  apply Nat.eq_of_testBit_eq
  intro j
  rw [Nat.testBit_and, Nat.sub_sub, Nat.add_comm 1 h, Nat.testBit_two_pow_sub_succ hh, Nat.zero_testBit]
  cases h.testBit j <;> simp
theorem neg_and : ∀ f x, 0 < x → x < 2 ^ f → ∃ k, k < f ∧ x &&& (2 ^ f - x) = 2 ^ k ∧ x.testBit k = true ∧ ∀ j, j < k → x.testBit j = false := by
  intro f
  induction f with
  | zero => intro x h1 h2; omega
  | succ f ih =>
    intro x h1 h2
    rw [Nat.pow_succ] at h2 ⊢
    rcases Nat.mod_two_eq_zero_or_one x with he | ho
    · obtain ⟨k, k1, k2, k3, k4⟩ := ih (x / 2) (by omega) (by omega)
      refine ⟨k + 1, by omega, ?_, ?_, ?_⟩
      · have := land_split1 (x / 2) (2 ^ f - x / 2) 0 0 (by decide) (by decide)
        rw [show 2 * (x / 2) + 0 = x from by omega, show 2 * (2 ^ f - x / 2) + 0 = 2 ^ f * 2 - x from by omega, k2] at this
        rw [this, Nat.pow_succ]
        simp
        omega
      · rw [Nat.testBit_succ]; exact k3
      · intro j hj
        cases j with
        | zero => rw [Nat.testBit_zero, he]; rfl
        | succ j => rw [Nat.testBit_succ]; exact k4 j (by omega)
    · refine ⟨0, by omega, ?_, ?_, fun j hj => by omega⟩
      · have := land_split1 (x / 2) (2 ^ f - 1 - x / 2) 1 1 (by decide) (by decide)
        rw [show 2 * (x / 2) + 1 = x from by omega, show 2 * (2 ^ f - 1 - x / 2) + 1 = 2 ^ f * 2 - x from by omega, compl_and f _ (by omega)] at this
        rw [this]
        rfl
      · rw [Nat.testBit_zero, ho]; rfl
theorem tz_tab : ∀ k : Nat, k < 24 → (2 ^ k * 285870213051353865 % 18446744073709551616) / 288230376151711744 < 64 ∧ debT.getD ((2 ^ k * 285870213051353865 % 18446744073709551616) / 288230376151711744) 0 = (k : Int) := by decide +kernel
theorem wrapu (n : Int) (h0 : 0 ≤ n) (h1 : n < 18446744073709551616) : IntKind.u64.wrap n = n := by
  simp only [IntKind.wrap, IntKind.bits, IntKind.signed]
  simp
  omega
theorem wrapu_mod (n : Nat) : IntKind.u64.wrap (n : Int) = ((n % 18446744073709551616 : Nat) : Int) := by
  simp only [IntKind.wrap, IntKind.bits, IntKind.signed]
  simp
theorem wrapu_neg (x : Nat) (h0 : 0 < x) (h1 : x < 18446744073709551616) : IntKind.u64.wrap (-(x : Int)) = ((18446744073709551616 - x : Nat) : Int) := by
  simp only [IntKind.wrap, IntKind.bits, IntKind.signed]
  simp
  omega
theorem andu (a b : Nat) (ha : a < 18446744073709551616) (hb : b < 18446744073709551616) : Go.bits .and .u64 (a : Int) (b : Int) = ((a &&& b : Nat) : Int) :=
  (bits_nat .u64 64 (by decide) (fun n h0 h1 => wrapu n h0 (by omega)) a b (by omega) (by omega)).1

theorem tz_facts (x : Nat) (h1 : 0 < x) (h2 : x < 16777216) : ∃ k : Nat, ∃ i : Nat, k < 24 ∧ i < 64 ∧ x.testBit k = true ∧ (∀ j, j < k → x.testBit j = false) ∧ debT.getD i 0 = (k : Int) ∧
    IntKind.u64.wrap (Go.bits .and .u64 (x : Int) (IntKind.u64.wrap (-(x : Int))) * 285870213051353865) / 288230376151711744 = (i : Int) := by
  obtain ⟨k, k1, k2, k3, k4⟩ := neg_and 64 x h1 (by omega)
  have hk : k < 24 := by
    rcases Nat.lt_or_ge k 24 with h | h
    · exact h
    · rw [Nat.testBit_lt_two_pow (Nat.lt_of_lt_of_le h2 (Nat.pow_le_pow_right (by decide) h : 2 ^ 24 ≤ 2 ^ k))] at k3
      cases k3
  obtain ⟨t1, t2⟩ := tz_tab k hk
  refine ⟨k, (2 ^ k * 285870213051353865 % 18446744073709551616) / 288230376151711744, hk, t1, k3, k4, t2, ?_⟩
  rw [wrapu_neg x h1 (by omega), andu _ _ (by omega) (by omega), show (18446744073709551616 : Nat) - x = 2 ^ 64 - x from rfl, k2]
  have e : (((2 ^ k : Nat) : Int) * 285870213051353865) = ((2 ^ k * 285870213051353865 : Nat) : Int) := by simp
  rw [e, wrapu_mod]
  omega

set_option maxHeartbeats 400000 in
set_option maxRecDepth 100000 in
theorem tz64_calls (x : Nat) (h1 : 0 < x) (h2 : x < 16777216) (w : World) (hT : Deb w) : Calls Tryd.prog 81 #[.int .u64 x] w fun e w' => ∃ k : Nat, e = .returned (.int .i64 k) ∧ w' = w ∧ k < 24 ∧ x.testBit k = true ∧ ∀ j, j < k → x.testBit j = false := by
  obtain ⟨k, i, k1, i1, k3, k4, e1, e2⟩ := tz_facts x h1 h2
  have hc := hT i i1
  rw [e1] at hc
  have hx0 : ((x : Int) == 0) = false := by rw [beq_eq_false_iff_ne]; omega
  have hi2 : (i : Int) < 64 := by omega
  have K3 := Aside0.mk k3
  have K4 := Aside0.mk k4
  clear e1 k3 k4 hT
  go_enter Tryd.func81, Tryd.ntmps81
  go_wp2
  go_ret
  exact ⟨k, by simp, rfl, k1, K3.out, K4.out⟩
set_option maxHeartbeats 400000 in
set_option maxRecDepth 100000 in
theorem tz_calls (x : Nat) (h1 : 0 < x) (h2 : x < 16777216) (w : World) (hT : Deb w) : Calls Tryd.prog 59 #[.int .u64 x] w fun e w' => ∃ k : Nat, e = .returned (.int .i64 k) ∧ w' = w ∧ k < 24 ∧ x.testBit k = true ∧ ∀ j, j < k → x.testBit j = false := by
  have HT := Aside0.mk hT
  clear hT
  go_enter Tryd.func59, Tryd.ntmps59
  go_wp2_with fail
  refine (tz64_calls x h1 h2 _ HT.out).mono ?_
  rintro e w2 ⟨k, rfl, rfl, k1, k3, k4⟩
  have K3 := Aside0.mk k3
  have K4 := Aside0.mk k4
  clear k3 k4
  go_wp2
  go_ret
  exact ⟨k, rfl, rfl, k1, K3.out, K4.out⟩
end Go.Proofs.YtknlablmkcabkaaDoor
