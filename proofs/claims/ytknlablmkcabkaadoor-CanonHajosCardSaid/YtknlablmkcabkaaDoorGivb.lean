/- Whether the second condition holds: the search through products of roots. -/
import Derived.Test.YtknlablmkcabkaaDoorQCanonConditionsx3
import Derived.Test.YtknlablmkcabkaaDoorApp
import Derived.Shelf.Abstract
import Derived.StillTailTactics
namespace Go.Proofs.YtknlablmkcabkaaDoor
open Go.RowKit Go.Shelf Go.Proofs.YtknlablmkcabkaaDoorW.PrintWords Go.Proofs.YtknlablmkcabkaaDoorW.PrintLast Go.Proofs.YtknlablmkcabkaaDoorW.PrintMore Go.Proofs.YtknlablmkcabkaaDoorHnd QCanonConditions
set_option linter.unusedVariables false
set_option linter.unusedSimpArgs false

mutual
/-- holds(from, product), for a list of roots. -/
def holds2.f : Nat → List Int → Int → Int → Option Bool
  | 0, _, _, _ => none
  | k + 1, l, i, p => if 1 < p then (slices_Contains_int_int.f k l p).bind fun c => if c = true then holds2.l k l i p else some false else holds2.l k l i p
def holds2.l : Nat → List Int → Int → Int → Option Bool
  | 0, _, _, _ => none
  | k + 1, l, i, p => if i < (l.length : Int) then (if 0 ≤ i then ((canon_prime.f k (rd l i)).bind fun q => if 0 < q then (if Int.tmod p q = 0 then holds2.l k l (wrap64 (i + 1)) p else (holds2.f k l (wrap64 (i + 1)) (wrap64 (p * rd l i))).bind fun b => if b = true then holds2.l k l (wrap64 (i + 1)) p else some false) else holds2.l k l (wrap64 (i + 1)) p) else none) else some true
end

theorem quiet_of' {P : Program} {f : FuncId} {args : Array Value} {w : World} {a n : Nat} {v : Value} (h : Calls P f args (w.drewN (a + n)) fun e w' => e = .returned v ∧ Drawn0 (w.drewN (a + n)) w') :
    Calls P f args (w.drewN (a + n)) fun e w'' => e = .returned v ∧ ∃ m, w'' = w.drewN (a + m) :=
  h.mono fun _ _ ⟨he, m, hm⟩ => ⟨he, n + m, by rw [hm, World.drewN_drewN, Nat.add_assoc]⟩

theorem holds_enters : Enters Tryd.prog 60 := enters_of Tryd.func60 (by kernel_rfl) rfl

/-- What holds keeps before it: the roots' box and its own. -/
def Boxed (l : List Int) (B1 B2 : Nat) (w : World) : Prop :=
  ∃ A c, w.cell? ⟨B1, 0, none⟩ = some (.slice A l.length c) ∧ l.length ≤ c ∧ Kd.C (Kd.int .i64) w A l.length l ∧ w.cell? ⟨B2, 0, none⟩ = some (.func (.func 60) #[] #[.pointer (some ⟨B1, 0, none⟩), .pointer (some ⟨B2, 0, none⟩)])
theorem Boxed.drawn {l : List Int} {B1 B2 : Nat} {w w' : World} (h : Boxed l B1 B2 w) (hD : Drawn0 w w') : Boxed l B1 B2 w' := by
  obtain ⟨A, c, h1, h2, h3, h4⟩ := h
  obtain ⟨m, rfl⟩ := hD
  exact ⟨A, c, h1, h2, Kd.C_drewN h3 _, h4⟩

/-- What holds promises at k rounds. -/
def HoldsAt (l : List Int) (B1 B2 k : Nat) : Prop :=
  ∀ i p r w, Boxed l B1 B2 w → holds2.f k l i p = some r → Calls Tryd.prog 60 (#[.int .i64 i, .int .i64 p] ++ #[.pointer (some ⟨B1, 0, none⟩), .pointer (some ⟨B2, 0, none⟩)]) w fun e w' => e = .returned (.bool r) ∧ Drawn0 w w'

set_option maxHeartbeats 1000000 in
set_option maxRecDepth 100000 in
theorem holds2_calls (l : List Int) (B1 B2 : Nat) (hl : l.length ≤ 1000000) (k : Nat) (ih : ∀ m, m < k → HoldsAt l B1 B2 m) : HoldsAt l B1 B2 k := by
  intro i p r w hB h
  cases k with
  | zero => cases h
  | succ k =>
  have hE' : ∀ (args : Array Value) (w : World), (callFunc 60 args).run Tryd.prog w = .ok (.enter 60 args) w := holds_enters
  have HB := Aside0.mk hB
  have IH := Aside0.mk ih
  obtain ⟨A, c, h1, h2, h3, h4⟩ := hB
  have HR := Aside0.mk h3
  clear h3 ih
  simp only [holds2.f] at h
  by_cases hp : 1 < p
  · rw [if_pos hp] at h
    obtain ⟨b, hb, h'⟩ := Option.bind_eq_some_iff.mp h
    clear h
    have Hb := Aside0.mk hb
    clear hb
    cases b with
    | false =>
      simp only [Bool.false_eq_true, if_false] at h'
      cases h'
      go_enter Tryd.func60, Tryd.ntmps60
      go_wp2_with fail
      refine (slices_Contains_int_int.calls k A c l p false _ HR.out h2 Hb.out).mono ?_
      rintro e w2 ⟨rfl, hD2⟩
      obtain ⟨m2, rfl⟩ := hD2
      go_wp2
      go_ret
      exact ⟨rfl, ⟨_, rfl⟩⟩
    | true =>
      rw [if_pos rfl] at h'
      have HH := Aside0.mk h'
      clear h'
      go_enter Tryd.func60, Tryd.ntmps60
      go_wp2_with fail
      refine (slices_Contains_int_int.calls k A c l p true _ HR.out h2 Hb.out).mono ?_
      rintro e w2 ⟨rfl, hD2⟩
      obtain ⟨m2, rfl⟩ := hD2
      go_wp2
      go_loopw [7] (fun v wr => ∃ (j : Int) (m : Nat), v = .int .i64 j ∧ m ≤ k ∧ Aside0 (holds2.l m l j p = some r) ∧ Aside0 (Drawn0 w wr)) (fun v _ => ((l.length : Int) - intOf v).toNat)
      case atStart => exact ⟨i, k, rfl, Nat.le_refl _, HH, ⟨Drawn0.step (Drawn0.refl _) _⟩⟩
      case round =>
        obtain ⟨j, m, rfl, hm, HL, HD⟩ := hrel
        cases m with
        | zero => exact absurd HL.out (by simp [holds2.l])
        | succ m =>
        have hL := HL.out
        clear HL
        simp only [holds2.l] at hL
        have HBr := Aside0.mk (Boxed.drawn HB.out HD.out)
        obtain ⟨mr, rfl⟩ := HD.out
        by_cases hj : j < (l.length : Int)
        · rw [if_pos hj] at hL
          by_cases hj0 : 0 ≤ j
          · rw [if_pos hj0] at hL
            obtain ⟨q, hq, hL⟩ := Option.bind_eq_some_iff.mp hL
            have Hq := Aside0.mk hq
            clear hq
            obtain ⟨ad, hA, hcell⟩ := Kd.at_int HR.out j (by omega) (by omega)
            subst hA
            obtain ⟨x, hx⟩ : ∃ x, rd l j = x := ⟨_, rfl⟩
            rw [hx] at hcell Hq hL
            clear hx
            have hj1 : wrap64 (j + 1) = j + 1 := by unfold wrap64; omega
            rw [hj1] at hL
            have hj2 : IntKind.i64.wrap (j + 1) = j + 1 := (i64_w _).trans hj1
            have hj3 : IntKind.i64.wrap (p * x) = wrap64 (p * x) := i64_w _
            clear hj1
            by_cases hq0 : 0 < q
            · rw [if_pos hq0] at hL
              have hqz : ¬ q = 0 := by omega
              by_cases hpq : Int.tmod p q = 0
              · rw [if_pos hpq] at hL
                have HL := Aside0.mk hL
                clear hL
                go_wp2_with fail
                refine (canon_prime.calls m x q _ Hq.out).mono ?_
                rintro e w2 ⟨rfl, hD2⟩
                obtain ⟨m2, rfl⟩ := hD2
                go_wp2
                go_quiet (fail)
                go_wp2
                go_roundw
                case measure => simp [intOf]; omega
                case rel => exact ⟨j + 1, m, by go_num, by omega, HL, ⟨(⟨_, rfl⟩ : Drawn0 _ _)⟩⟩
              · rw [if_neg hpq] at hL
                have hpq1 : (Int.tmod p q == 0) = false := beq_eq_false_iff_ne.mpr hpq
                have hpq2 : (Int.tmod p q != 0) = true := bne_iff_ne.mpr hpq
                clear hpq
                obtain ⟨b, hb, hL⟩ := Option.bind_eq_some_iff.mp hL
                have Hb := Aside0.mk hb
                clear hb
                cases b with
                | true =>
                  rw [if_pos rfl] at hL
                  have HL := Aside0.mk hL
                  clear hL
                  go_wp2_with fail
                  refine (canon_prime.calls m x q _ Hq.out).mono ?_
                  rintro e w2 ⟨rfl, hD2⟩
                  obtain ⟨m2, rfl⟩ := hD2
                  go_wp2
                  go_quiet ((go_at_call 60; exact quiet_of' (IH.out m (by omega) _ _ _ _ (Boxed.drawn HB.out ⟨_, rfl⟩) Hb.out)))
                  go_wp2
                  go_roundw
                  case measure => simp [intOf]; omega
                  case rel => exact ⟨j + 1, m, by go_num, by omega, HL, ⟨(⟨_, rfl⟩ : Drawn0 _ _)⟩⟩
                | false =>
                  simp only [Bool.false_eq_true, if_false] at hL
                  cases hL
                  go_wp2_with fail
                  refine (canon_prime.calls m x q _ Hq.out).mono ?_
                  rintro e w2 ⟨rfl, hD2⟩
                  obtain ⟨m2, rfl⟩ := hD2
                  go_wp2
                  go_quiet ((go_at_call 60; exact quiet_of' (IH.out m (by omega) _ _ _ _ (Boxed.drawn HB.out ⟨_, rfl⟩) Hb.out)))
                  go_wp2
                  go_ret
                  exact ⟨rfl, Drawn0.step ⟨_, rfl⟩ _⟩
            · rw [if_neg hq0] at hL
              have hq1 : decide (0 < q) = false := decide_eq_false hq0
              have hq2 : (0 < q) = False := eq_false hq0
              clear hq0
              have HL := Aside0.mk hL
              clear hL
              go_wp2_with fail
              refine (canon_prime.calls m x q _ Hq.out).mono ?_
              rintro e w2 ⟨rfl, hD2⟩
              obtain ⟨m2, rfl⟩ := hD2
              go_wp2
              go_quiet (fail)
              go_wp2
              go_roundw
              case measure => simp [intOf]; omega
              case rel => exact ⟨j + 1, m, by go_num, by omega, HL, ⟨(⟨_, rfl⟩ : Drawn0 _ _)⟩⟩
          · rw [if_neg hj0] at hL
            cases hL
        · rw [if_neg hj] at hL
          cases hL
          go_wp2
          go_ret
          exact ⟨rfl, ⟨_, rfl⟩⟩
  · rw [if_neg hp] at h
    have HH := Aside0.mk h
    clear h
    go_enter Tryd.func60, Tryd.ntmps60
    go_wp2
    go_loopw [7] (fun v wr => ∃ (j : Int) (m : Nat), v = .int .i64 j ∧ m ≤ k ∧ Aside0 (holds2.l m l j p = some r) ∧ Aside0 (Drawn0 w wr)) (fun v _ => ((l.length : Int) - intOf v).toNat)
    case atStart => exact ⟨i, k, rfl, Nat.le_refl _, HH, ⟨Drawn0.refl _⟩⟩
    case round =>
      obtain ⟨j, m, rfl, hm, HL, HD⟩ := hrel
      cases m with
      | zero => exact absurd HL.out (by simp [holds2.l])
      | succ m =>
      have hL := HL.out
      clear HL
      simp only [holds2.l] at hL
      have HBr := Aside0.mk (Boxed.drawn HB.out HD.out)
      obtain ⟨mr, rfl⟩ := HD.out
      by_cases hj : j < (l.length : Int)
      · rw [if_pos hj] at hL
        by_cases hj0 : 0 ≤ j
        · rw [if_pos hj0] at hL
          obtain ⟨q, hq, hL⟩ := Option.bind_eq_some_iff.mp hL
          have Hq := Aside0.mk hq
          clear hq
          obtain ⟨ad, hA, hcell⟩ := Kd.at_int HR.out j (by omega) (by omega)
          subst hA
          obtain ⟨x, hx⟩ : ∃ x, rd l j = x := ⟨_, rfl⟩
          rw [hx] at hcell Hq hL
          clear hx
          have hj1 : wrap64 (j + 1) = j + 1 := by unfold wrap64; omega
          rw [hj1] at hL
          have hj2 : IntKind.i64.wrap (j + 1) = j + 1 := (i64_w _).trans hj1
          have hj3 : IntKind.i64.wrap (p * x) = wrap64 (p * x) := i64_w _
          clear hj1
          by_cases hq0 : 0 < q
          · rw [if_pos hq0] at hL
            have hqz : ¬ q = 0 := by omega
            by_cases hpq : Int.tmod p q = 0
            · rw [if_pos hpq] at hL
              have HL := Aside0.mk hL
              clear hL
              go_wp2_with fail
              refine (canon_prime.calls m x q _ Hq.out).mono ?_
              rintro e w2 ⟨rfl, hD2⟩
              obtain ⟨m2, rfl⟩ := hD2
              go_wp2
              go_quiet (fail)
              go_wp2
              go_roundw
              case measure => simp [intOf]; omega
              case rel => exact ⟨j + 1, m, by go_num, by omega, HL, ⟨(⟨_, rfl⟩ : Drawn0 _ _)⟩⟩
            · rw [if_neg hpq] at hL
              have hpq1 : (Int.tmod p q == 0) = false := beq_eq_false_iff_ne.mpr hpq
              have hpq2 : (Int.tmod p q != 0) = true := bne_iff_ne.mpr hpq
              clear hpq
              obtain ⟨b, hb, hL⟩ := Option.bind_eq_some_iff.mp hL
              have Hb := Aside0.mk hb
              clear hb
              cases b with
              | true =>
                rw [if_pos rfl] at hL
                have HL := Aside0.mk hL
                clear hL
                go_wp2_with fail
                refine (canon_prime.calls m x q _ Hq.out).mono ?_
                rintro e w2 ⟨rfl, hD2⟩
                obtain ⟨m2, rfl⟩ := hD2
                go_wp2
                go_quiet ((go_at_call 60; exact quiet_of' (IH.out m (by omega) _ _ _ _ (Boxed.drawn HB.out ⟨_, rfl⟩) Hb.out)))
                go_wp2
                go_roundw
                case measure => simp [intOf]; omega
                case rel => exact ⟨j + 1, m, by go_num, by omega, HL, ⟨(⟨_, rfl⟩ : Drawn0 _ _)⟩⟩
              | false =>
                simp only [Bool.false_eq_true, if_false] at hL
                cases hL
                go_wp2_with fail
                refine (canon_prime.calls m x q _ Hq.out).mono ?_
                rintro e w2 ⟨rfl, hD2⟩
                obtain ⟨m2, rfl⟩ := hD2
                go_wp2
                go_quiet ((go_at_call 60; exact quiet_of' (IH.out m (by omega) _ _ _ _ (Boxed.drawn HB.out ⟨_, rfl⟩) Hb.out)))
                go_wp2
                go_ret
                exact ⟨rfl, Drawn0.step ⟨_, rfl⟩ _⟩
          · rw [if_neg hq0] at hL
            have hq1 : decide (0 < q) = false := decide_eq_false hq0
            have hq2 : (0 < q) = False := eq_false hq0
            clear hq0
            have HL := Aside0.mk hL
            clear hL
            go_wp2_with fail
            refine (canon_prime.calls m x q _ Hq.out).mono ?_
            rintro e w2 ⟨rfl, hD2⟩
            obtain ⟨m2, rfl⟩ := hD2
            go_wp2
            go_quiet (fail)
            go_wp2
            go_roundw
            case measure => simp [intOf]; omega
            case rel => exact ⟨j + 1, m, by go_num, by omega, HL, ⟨(⟨_, rfl⟩ : Drawn0 _ _)⟩⟩
        · rw [if_neg hj0] at hL
          cases hL
      · rw [if_neg hj] at hL
        cases hL
        go_wp2
        go_ret
        exact ⟨rfl, ⟨_, rfl⟩⟩

theorem holds2_at (l : List Int) (B1 B2 : Nat) (hl : l.length ≤ 1000000) (k : Nat) : HoldsAt l B1 B2 k := by
  induction k using Nat.strongRecOn with
  | ind k ih => exact holds2_calls l B1 B2 hl k ih

/-- Whether the second condition holds. -/
noncomputable def canon_circle_second.f (n a : Int) : Option Bool := (lim fun k => canon_circle_roots.f k n a).bind fun l => if l.length ≤ 1000000 then holds2.f 100 l 0 1 else none
set_option maxHeartbeats 400000 in
set_option maxRecDepth 100000 in
theorem canon_circle_second.calls (a0 : Int) (a1 : Int) (r : Bool) (w : World) (h : canon_circle_second.f a0 a1 = some r) :
    Calls Tryd.prog 34 #[.int .i64 a0, .int .i64 a1] w fun e w' => e = .returned (.bool r) ∧ Below w.heap.size w w' := by
  unfold canon_circle_second.f at h
  obtain ⟨l, hr, h⟩ := Option.bind_eq_some_iff.mp h
  obtain ⟨kr, hr⟩ := lim_some hr
  split at h
  case isFalse => cases h
  case isTrue hl =>
  have Hr := Aside0.mk hr
  have HH := Aside0.mk h
  clear hr h
  have hmf : ∀ (fn : Fn) (first cap : Array Value) (w : World), (Instr.makeFunc fn first cap).run Tryd.prog w = .ok (.func fn first cap) w := fun _ _ _ _ => rfl
  have hE' : ∀ (args : Array Value) (w : World), (callFunc 60 args).run Tryd.prog w = .ok (.enter 60 args) w := holds_enters
  go_enter Tryd.func34, Tryd.ntmps34
  go_wp2_with fail
  refine (canon_circle_roots.calls kr a0 a1 l _ Hr.out).mono ?_
  rintro e w2 ⟨v, rfl, hR, hb⟩
  obtain ⟨A, c, rfl⟩ := Kd.R_slice hR
  have HR := Aside0.mk hR
  have HB := Aside0.mk hb
  clear hR hb
  have hsf : ∀ (a : Addr) (f : Fn) (fs cs : Array Value) (m : Mode) (w : World), (store a (.func f fs cs) m).run Tryd.prog w = stored Tryd.prog w a (.func f fs cs) m := fun a f fs cs m w => run_store Tryd.prog w a _ m rfl
  go_wp2_with fail
  refine (holds2_at l w2.heap.size (w2.heap.size + 1) hl 100 0 1 r _ ⟨A, c, ?b1, (Kd.R_reads' HR.out).2.1, ?b2, ?b3⟩ HH.out).mono ?_
  case b1 => exact (blk_cell (blk_new0 w2 _ _) 0).trans (by simp)
  case b2 => exact Kd.C_alloc (Kd.C_alloc (Kd.R_reads' HR.out).2.2 _) _
  case b3 => exact (blk_cell (blk_new1 w2 _ _) 0).trans (by simp)
  rintro e w3 ⟨rfl, m3, rfl⟩
  go_wp2
  go_ret
  exact ⟨rfl, pw_below_drewN ((HB.out.alloc (by have := HB.out.size; omega) _).alloc (by have := HB.out.size; simp; omega) _) _⟩

end Go.Proofs.YtknlablmkcabkaaDoor
