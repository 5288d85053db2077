/- Whether one of some numbers is taken by a function of the caller; whether some rhythms are valid; whether all coefficients are 0; a polynomial is cloned. -/
import Derived.Test.YtknlablmkcabkaaDoorHnd
import Derived.Test.YtknlablmkcabkaaDoorProg
import Derived.Tactics
import Derived.WalkKit
import Derived.KernelRfl
import Derived.Deep.QuietTactic
import Derived.Deep.DeepCutAuto
import Derived.Shelf.Abstract
import Derived.Lib.SliceRun
namespace Go.Proofs.YtknlablmkcabkaaDoor
open Go.RowKit Go.Shelf Go.Proofs.YtknlablmkcabkaaDoorW.PrintWords Go.Proofs.YtknlablmkcabkaaDoorW.PrintLast Go.Proofs.YtknlablmkcabkaaDoorW.PrintMore Go.Proofs.YtknlablmkcabkaaDoorHnd
set_option linter.unusedVariables false
set_option linter.unusedSimpArgs false

theorem aidx_one (p : Int → Bool) (l : List Int) (i : Nat) (hi : i < l.length) (h : ∀ j, j < i → p (l.getD j 0) = false) (hp : p (l.getD i 0) = true) : l.any p = true := by
  rw [List.any_eq_true]
  exact ⟨l.getD i 0, by simp [List.getD, List.getElem?_eq_getElem hi], hp⟩
theorem aidx_no (p : Int → Bool) (l : List Int) (h : ∀ j, j < l.length → p (l.getD j 0) = false) : l.any p = false := by
  rw [List.any_eq_false]
  intro x hx
  obtain ⟨j, hj, rfl⟩ := List.mem_iff_getElem.mp hx
  have := h j hj
  simp [List.getD, List.getElem?_eq_getElem hj] at this
  simp [this]

set_option maxHeartbeats 400000 in
set_option maxRecDepth 100000 in
/-- The first number that the caller's function takes. -/
theorem aidx_calls (g : Nat) (caps : Array Value) (p : Int → Bool) (A : Option Addr) (c : Nat) (l : List Int) (w : World) (hr : Kd.C (Kd.int .i64) w A l.length l) (hc : l.length ≤ c) (hl : l.length ≤ 1000000)
    (hE : Enters Tryd.prog g) (hg : ∀ x w', Drawn0 w w' → Calls Tryd.prog g (#[.int .i64 x] ++ caps) w' fun e w'' => e = .returned (.bool (p x)) ∧ Drawn0 w' w'') :
    Calls Tryd.prog 79 #[.slice A l.length c, .func (.func g) #[] caps] w fun e w' => ∃ i : Int, e = .returned (.int .i64 i) ∧ (decide (0 ≤ i) = l.any p) ∧ -1 ≤ i ∧ Drawn0 w w' := by
  have hE' : ∀ (args : Array Value) (w : World), (callFunc g args).run Tryd.prog w = .ok (.enter g args) w := hE
  have HR := Aside0.mk hr
  have HG := Aside0.mk hg
  clear hr hg
  go_enter Tryd.func79, Tryd.ntmps79
  go_wp2
  go_loopw [8] (fun v wr => ∃ i : Nat, i ≤ l.length ∧ v = .int .i64 i ∧ Aside0 (∀ j, j < i → p (l.getD j 0) = false) ∧ Aside0 (Drawn0 w wr)) (fun v _ => l.length - (intOf v).toNat)
  case atStart => exact ⟨0, Nat.zero_le _, rfl, ⟨fun j h => by omega⟩, ⟨Drawn0.refl _⟩⟩
  case round =>
    obtain ⟨i, hi, rfl, HT, HD⟩ := hrel
    by_cases hin : i < l.length
    · obtain ⟨ad, hA, hcell⟩ := Kd.at_int (Kd.C_below HR.out HD.out.below) (i : Int) (by omega) (by omega)
      subst hA
      simp only [Int.toNat_natCast] at hcell
      rw [show rd l (i : Int) = l.getD i 0 from by simp [rd, List.getD]] at hcell
      have hin3 : (i : Int) < (l.length : Int) := by omega
      have HE := Aside0.mk (HG.out (l.getD i 0) wr HD.out)
      obtain ⟨x, hx⟩ : ∃ x, l.getD i 0 = x := ⟨_, rfl⟩
      rw [hx] at hcell HE
      have Hx := Aside0.mk hx
      clear hx
      cases hp : p x with
      | true =>
        rw [hp] at HE
        have Hp := Aside0.mk hp
        clear hp
        go_wp2_with fail
        refine HE.out.mono ?_
        rintro e w2 ⟨rfl, hD2⟩
        obtain ⟨m2, rfl⟩ := hD2
        go_wp2
        go_ret
        exact ⟨(i : Int), rfl, by rw [aidx_one p l i hin HT.out (by rw [Hx.out]; exact Hp.out)]; simp, by omega, Drawn0.step HD.out _⟩
      | false =>
        rw [hp] at HE
        have Hp := Aside0.mk hp
        clear hp
        go_wp2_with fail
        refine HE.out.mono ?_
        rintro e w2 ⟨rfl, hD2⟩
        obtain ⟨m2, rfl⟩ := hD2
        go_wp2
        go_roundw
        case measure => simp [intOf]; omega
        case rel =>
          refine ⟨i + 1, by omega, by go_num, ⟨fun j hj => ?_⟩, ⟨Drawn0.step HD.out _⟩⟩
          by_cases h : j = i
          · subst h; rw [Hx.out]; exact Hp.out
          · exact HT.out j (by omega)
    · obtain rfl : i = l.length := by omega
      go_wp2
      go_ret
      exact ⟨-1, rfl, by rw [aidx_no p l HT.out]; simp, by omega, HD.out⟩

set_option maxHeartbeats 400000 in
set_option maxRecDepth 100000 in
theorem acon_calls (g : Nat) (caps : Array Value) (p : Int → Bool) (A : Option Addr) (c : Nat) (l : List Int) (w : World) (hr : Kd.C (Kd.int .i64) w A l.length l) (hc : l.length ≤ c) (hl : l.length ≤ 1000000)
    (hE : Enters Tryd.prog g) (hg : ∀ x w', Drawn0 w w' → Calls Tryd.prog g (#[.int .i64 x] ++ caps) w' fun e w'' => e = .returned (.bool (p x)) ∧ Drawn0 w' w'') :
    Calls Tryd.prog 56 #[.slice A l.length c, .func (.func g) #[] caps] w fun e w' => e = .returned (.bool (l.any p)) ∧ Drawn0 w w' := by
  have HR := Aside0.mk hr
  have HG := Aside0.mk hg
  have HE := Aside0.mk hE
  clear hr hg hE
  go_enter Tryd.func56, Tryd.ntmps56
  go_wp2_with fail
  refine (aidx_calls g caps p A c l w HR.out hc hl HE.out HG.out).mono ?_
  rintro e w2 ⟨i, rfl, hi, h1, hD2⟩
  have Hi := Aside0.mk hi
  clear hi
  obtain ⟨m2, rfl⟩ := hD2
  go_wp2
  go_ret
  exact ⟨by rw [← Hi.out]; rfl, Drawn0.step (Drawn0.refl _) _⟩


theorem bidx_one (p : Int → Bool) (l : List Int) (i : Nat) (hi : i < l.length) (h : ∀ j, j < i → p (l.getD j 0) = false) (hp : p (l.getD i 0) = true) : l.any p = true := by
  rw [List.any_eq_true]
  exact ⟨l.getD i 0, by simp [List.getD, List.getElem?_eq_getElem hi], hp⟩
theorem bidx_no (p : Int → Bool) (l : List Int) (h : ∀ j, j < l.length → p (l.getD j 0) = false) : l.any p = false := by
  rw [List.any_eq_false]
  intro x hx
  obtain ⟨j, hj, rfl⟩ := List.mem_iff_getElem.mp hx
  have := h j hj
  simp [List.getD, List.getElem?_eq_getElem hj] at this
  simp [this]

set_option maxHeartbeats 400000 in
set_option maxRecDepth 100000 in
/-- The first number that the caller's function takes. -/
theorem bidx_calls (g : Nat) (caps : Array Value) (p : Int → Bool) (A : Option Addr) (c : Nat) (l : List Int) (w : World) (hr : Kd.C (Kd.int .i64) w A l.length l) (hc : l.length ≤ c) (hl : l.length ≤ 1000000)
    (hE : Enters Tryd.prog g) (hg : ∀ x w', Drawn0 w w' → Calls Tryd.prog g (#[.int .i64 x] ++ caps) w' fun e w'' => e = .returned (.bool (p x)) ∧ Drawn0 w' w'') :
    Calls Tryd.prog 107 #[.slice A l.length c, .func (.func g) #[] caps] w fun e w' => ∃ i : Int, e = .returned (.int .i64 i) ∧ (decide (0 ≤ i) = l.any p) ∧ -1 ≤ i ∧ Drawn0 w w' := by
  have hE' : ∀ (args : Array Value) (w : World), (callFunc g args).run Tryd.prog w = .ok (.enter g args) w := hE
  have HR := Aside0.mk hr
  have HG := Aside0.mk hg
  clear hr hg
  go_enter Tryd.func107, Tryd.ntmps107
  go_wp2
  go_loopw [8] (fun v wr => ∃ i : Nat, i ≤ l.length ∧ v = .int .i64 i ∧ Aside0 (∀ j, j < i → p (l.getD j 0) = false) ∧ Aside0 (Drawn0 w wr)) (fun v _ => l.length - (intOf v).toNat)
  case atStart => exact ⟨0, Nat.zero_le _, rfl, ⟨fun j h => by omega⟩, ⟨Drawn0.refl _⟩⟩
  case round =>
    obtain ⟨i, hi, rfl, HT, HD⟩ := hrel
    by_cases hin : i < l.length
    · obtain ⟨ad, hA, hcell⟩ := Kd.at_int (Kd.C_below HR.out HD.out.below) (i : Int) (by omega) (by omega)
      subst hA
      simp only [Int.toNat_natCast] at hcell
      rw [show rd l (i : Int) = l.getD i 0 from by simp [rd, List.getD]] at hcell
      have hin3 : (i : Int) < (l.length : Int) := by omega
      have HE := Aside0.mk (HG.out (l.getD i 0) wr HD.out)
      obtain ⟨x, hx⟩ : ∃ x, l.getD i 0 = x := ⟨_, rfl⟩
      rw [hx] at hcell HE
      have Hx := Aside0.mk hx
      clear hx
      cases hp : p x with
      | true =>
        rw [hp] at HE
        have Hp := Aside0.mk hp
        clear hp
        go_wp2_with fail
        refine HE.out.mono ?_
        rintro e w2 ⟨rfl, hD2⟩
        obtain ⟨m2, rfl⟩ := hD2
        go_wp2
        go_ret
        exact ⟨(i : Int), rfl, by rw [bidx_one p l i hin HT.out (by rw [Hx.out]; exact Hp.out)]; simp, by omega, Drawn0.step HD.out _⟩
      | false =>
        rw [hp] at HE
        have Hp := Aside0.mk hp
        clear hp
        go_wp2_with fail
        refine HE.out.mono ?_
        rintro e w2 ⟨rfl, hD2⟩
        obtain ⟨m2, rfl⟩ := hD2
        go_wp2
        go_roundw
        case measure => simp [intOf]; omega
        case rel =>
          refine ⟨i + 1, by omega, by go_num, ⟨fun j hj => ?_⟩, ⟨Drawn0.step HD.out _⟩⟩
          by_cases h : j = i
          · subst h; rw [Hx.out]; exact Hp.out
          · exact HT.out j (by omega)
    · obtain rfl : i = l.length := by omega
      go_wp2
      go_ret
      exact ⟨-1, rfl, by rw [bidx_no p l HT.out]; simp, by omega, HD.out⟩

set_option maxHeartbeats 400000 in
set_option maxRecDepth 100000 in
theorem bcon_calls (g : Nat) (caps : Array Value) (p : Int → Bool) (A : Option Addr) (c : Nat) (l : List Int) (w : World) (hr : Kd.C (Kd.int .i64) w A l.length l) (hc : l.length ≤ c) (hl : l.length ≤ 1000000)
    (hE : Enters Tryd.prog g) (hg : ∀ x w', Drawn0 w w' → Calls Tryd.prog g (#[.int .i64 x] ++ caps) w' fun e w'' => e = .returned (.bool (p x)) ∧ Drawn0 w' w'') :
    Calls Tryd.prog 84 #[.slice A l.length c, .func (.func g) #[] caps] w fun e w' => e = .returned (.bool (l.any p)) ∧ Drawn0 w w' := by
  have HR := Aside0.mk hr
  have HG := Aside0.mk hg
  have HE := Aside0.mk hE
  clear hr hg hE
  go_enter Tryd.func84, Tryd.ntmps84
  go_wp2_with fail
  refine (bidx_calls g caps p A c l w HR.out hc hl HE.out HG.out).mono ?_
  rintro e w2 ⟨i, rfl, hi, h1, hD2⟩
  have Hi := Aside0.mk hi
  clear hi
  obtain ⟨m2, rfl⟩ := hD2
  go_wp2
  go_ret
  exact ⟨by rw [← Hi.out]; rfl, Drawn0.step (Drawn0.refl _) _⟩


theorem v1_enters : Enters Tryd.prog 57 := enters_of Tryd.func57 (by kernel_rfl) rfl
theorem z1_enters : Enters Tryd.prog 85 := enters_of Tryd.func85 (by kernel_rfl) rfl
theorem C_len {A : Option Addr} {n : Nat} {l : List Int} {w : World} (h : Kd.C (Kd.int .i64) w A n l) : l.length ≤ 1000000 ∨ 1000000 < l.length := by omega

/-- Is a number no rhythm of a circle of n beats? -/
def badR (n r : Int) : Bool := decide (r < 0) || decide (wrap64 (2 ^ n.toNat) ≤ r) || (bits .and .i64 r 1 == 0)

set_option maxHeartbeats 400000 in
theorem v1_calls (n r : Int) (B : Nat) (w : World) (hn : 2 ≤ n) (hn1 : n ≤ 24) (hB : w.cell? ⟨B, 0, none⟩ = some (.int .i64 n)) :
    Calls Tryd.prog 57 (#[.int .i64 r] ++ #[.pointer (some ⟨B, 0, none⟩)]) w fun e w' => e = .returned (.bool (badR n r)) ∧ Drawn0 w w' := by
  go_enter Tryd.func57, Tryd.ntmps57
  go_wp2
  · go_ret
    exact ⟨rfl, Drawn0.refl _⟩
  · rename_i h1 h2
    go_ret
    exact ⟨by rw [badR, decide_eq_true h2]; simp, Drawn0.refl _⟩
  · rename_i h1
    go_ret
    exact ⟨by rw [badR, decide_eq_true h1]; simp, Drawn0.refl _⟩

set_option maxHeartbeats 400000 in
theorem z1_calls (c : Int) (w : World) :
    Calls Tryd.prog 85 (#[.int .i64 c] ++ #[]) w fun e w' => e = .returned (.bool (c != 0)) ∧ Drawn0 w w' := by
  go_enter Tryd.func85, Tryd.ntmps85
  go_wp2
  go_ret
  exact ⟨rfl, Drawn0.refl _⟩

/-- Are all coefficients 0? -/
def canon_polynomial_zero.f (l : List Int) : Option Bool := if l.length ≤ 1000000 then some (!(l.any (· != 0))) else none
set_option maxHeartbeats 400000 in
set_option maxRecDepth 100000 in
theorem canon_polynomial_zero.calls (A0 : Option Addr) (c0 : Nat) (l0 : List Int) (r : Bool) (w : World) (hr0 : Kd.C (Kd.int .i64) w A0 l0.length l0) (hc0 : l0.length ≤ c0) (h : canon_polynomial_zero.f l0 = some r) :
    Calls Tryd.prog 64 #[.slice A0 l0.length c0] w fun e w' => e = .returned (.bool r) ∧ Below w.heap.size w w' := by
  unfold canon_polynomial_zero.f at h
  split at h
  case isFalse => cases h
  case isTrue hl =>
  cases h
  have hmf : ∀ (fn : Fn) (first cap : Array Value) (w : World), (Instr.makeFunc fn first cap).run Tryd.prog w = .ok (.func fn first cap) w := fun _ _ _ _ => rfl
  have HR := Aside0.mk hr0
  clear hr0
  go_enter Tryd.func64, Tryd.ntmps64
  go_wp2_with fail
  refine (bcon_calls 85 #[] (fun c => c != 0) A0 c0 l0 w HR.out hc0 hl z1_enters (fun x w' _ => z1_calls x w')).mono ?_
  rintro e w2 ⟨rfl, hD2⟩
  obtain ⟨m2, rfl⟩ := hD2
  go_wp2
  go_ret
  exact ⟨rfl, (Drawn0.step (Drawn0.refl _) _).below⟩

/-- Are some numbers rhythms of a circle of n beats? -/
def canon_circle_valid.f (n : Int) (l : List Int) : Option Bool := if l.length ≤ 1000000 then some (decide (2 ≤ n) && decide (n ≤ 24) && !(l.any (badR n))) else none
set_option maxHeartbeats 400000 in
set_option maxRecDepth 100000 in
theorem canon_circle_valid.calls (a0 : Int) (A1 : Option Addr) (c1 : Nat) (l1 : List Int) (r : Bool) (w : World) (hr1 : Kd.C (Kd.int .i64) w A1 l1.length l1) (hc1 : l1.length ≤ c1) (h : canon_circle_valid.f a0 l1 = some r) :
    Calls Tryd.prog 28 #[.int .i64 a0, .slice A1 l1.length c1] w fun e w' => e = .returned (.bool r) ∧ Below w.heap.size w w' := by
  unfold canon_circle_valid.f at h
  split at h
  case isFalse => cases h
  case isTrue hl =>
  cases h
  have hmf : ∀ (fn : Fn) (first cap : Array Value) (w : World), (Instr.makeFunc fn first cap).run Tryd.prog w = .ok (.func fn first cap) w := fun _ _ _ _ => rfl
  have HR := Aside0.mk hr1
  clear hr1
  by_cases h2 : 2 ≤ a0
  · by_cases h3 : a0 ≤ 24
    · go_enter Tryd.func28, Tryd.ntmps28
      go_wp2_with fail
      refine (acon_calls 57 _ (badR a0) A1 c1 l1 _ (Kd.C_alloc HR.out _) hc1 hl v1_enters (fun x w' hD => v1_calls a0 x _ w' h2 h3 ?_)).mono ?_
      · obtain ⟨m, rfl⟩ := hD
        exact cell_one_at rfl 0 _ rfl
      rintro e w2 ⟨rfl, hD2⟩
      obtain ⟨m2, rfl⟩ := hD2
      have hx : decide (2 ≤ a0) = true := decide_eq_true h2
      have hy : decide (a0 ≤ 24) = true := decide_eq_true h3
      go_wp2
      go_ret
      exact ⟨by rw [hx, hy]; rfl, ((Below.refl _ _).alloc (Nat.le_refl _) _).trans ((Drawn0.step (Drawn0.refl _) m2).below.mono (by simp))⟩
    · go_enter Tryd.func28, Tryd.ntmps28
      go_wp2
      go_ret
      exact ⟨by rw [decide_eq_false (show ¬ a0 ≤ 24 from by omega)]; simp, (Below.refl _ _).alloc (Nat.le_refl _) _⟩
  · go_enter Tryd.func28, Tryd.ntmps28
    go_wp2
    go_ret
    exact ⟨by rw [decide_eq_false (show ¬ 2 ≤ a0 from by omega)]; simp, (Below.refl _ _).alloc (Nat.le_refl _) _⟩

theorem info3h : (Tryd.prog.info? 3).map (fun i => (i.zero, i.size, i.bytes)) = some (some (.int .i64 0), 1, 8) := by kernel_rfl
theorem eq_nil66 : ∀ (w : World) (a : Option Addr) (n c n' c' : Nat), (binOp .eql 66 (.slice a n c) (.slice none n' c')).run Tryd.prog w = .ok (.bool a.isNone) w := fun w a n c n' c' => Lib.run_eql_slice_nil w _ _ a n c n' c' Tryd.underlying66

/-- A clone. -/
def canon_polynomial_int_82.f (l : List Int) : Option (List Int) := if l.length ≤ 1000000 then some l else none
set_option maxHeartbeats 400000 in
set_option maxRecDepth 100000 in
theorem canon_polynomial_int_82.calls (A0 : Option Addr) (c0 : Nat) (l0 : List Int) (r : List Int) (w : World) (hr0 : Kd.C (Kd.int .i64) w A0 l0.length l0) (hc0 : l0.length ≤ c0) (h : canon_polynomial_int_82.f l0 = some r) :
    Calls Tryd.prog 82 #[.slice A0 l0.length c0] w fun e w' => ∃ v0_ : Value, e = .returned v0_ ∧ Kd.R (Kd.int .i64) 3 w' w.heap.size (fun _ => True) v0_ r ∧ Below w.heap.size w w' := by
  unfold canon_polynomial_int_82.f at h
  split at h
  case isFalse => cases h
  case isTrue hl =>
  cases h
  have q50 := eq_nil66
  cases A0 with
  | none =>
    have h0 : l0 = [] := by
      cases l0 with
      | nil => rfl
      | cons a b => obtain ⟨ad, e, _⟩ := hr0.2.2 (by simp); cases e
    subst h0
    go_enter Tryd.func82, Tryd.ntmps82
    go_wp2
    go_ret
    exact ⟨_, rfl, Kd.R_nil _ _ _ _ _, Below.refl _ _⟩
  | some ad =>
    have HR := Aside0.mk hr0
    clear hr0
    go_enter Tryd.func82, Tryd.ntmps82
    go_wp2_with (at_builtin; refine Kd.R_append_row (w0 := w) (Value.int .i64) 0 (h1 := fun _ => rfl) w.heap.size rfl _ _ 66 3 (.int .i64 0) 8 rfl Tryd.underlying66 info3h rfl (by decide) (.slice (some ⟨w.heap.size, 0, none⟩) 0 0) [] l0 (some ad) l0.length c0 (fun _ => True) rfl rfl (fun _ _ => trivial) ?c1 ?c2 ?c3 ?c4 (by simp; omega) ?c5)
    case c1 => exact Kd.R_of_own ⟨by simp [encs], .inr ⟨w.heap.size, 0, #[], rfl, Nat.le_refl _, blk_new w _, Nat.le_refl _, by decide, rfl, by simp [encs]⟩⟩ (fun _ _ => trivial)
    case c2 => exact Kd.C_alloc HR.out _
    case c3 => exact (Below.refl _ _).alloc (Nat.le_refl _) _
    case c4 => simp
    case c5 =>
      intro v1 w1 h1 h2 _ _
      go_wp2
      go_ret
      exact ⟨v1, rfl, h1, h2⟩
end Go.Proofs.YtknlablmkcabkaaDoor
