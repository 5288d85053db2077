/- Period, Plain and the walk of the statement CanonHajos. -/
import Derived.Test.YtknlablmkcabkaaDoorPar
import Derived.Test.YtknlablmkcabkaaDoorHaj
import Derived.StillTailTactics
import Derived.Deep.RegionHeld3
import Derived.Deep.QuietTactic
import Derived.BigQuiet
namespace Go.Proofs.YtknlablmkcabkaaDoor.Hw
open Go.RowKit Go.Shelf Go.Proofs.YtknlablmkcabkaaDoorW.PrintWords Go.Proofs.YtknlablmkcabkaaDoorW.PrintLast Go.Proofs.YtknlablmkcabkaaDoorW.PrintMore Go.Proofs.YtknlablmkcabkaaDoorHnd QCanonConditions Til Pa
set_option linter.unusedVariables false
set_option linter.unusedSimpArgs false

theorem awake_ok : sackbutlaw02_awake.f 100 = some true := by decide +kernel
theorem valid1 (m x : Nat) (h3 : 2 ≤ m) (h4 : m ≤ 24) (h2 : badR (m : Int) (x : Int) = false) : canon_circle_valid.f (m : Int) [(x : Int)] = some true := by
  rw [valid_eq _ _ (by simp)]
  simp [h2]
  omega
theorem valid_no (n a : Int) (h : (decide (2 ≤ n) && decide (n ≤ 24) && !badR n a) = false) : canon_circle_valid.f n [a] = some false := by
  rw [valid_eq n [a] (by simp)]
  simpa using h

set_option maxHeartbeats 1000000 in
set_option maxRecDepth 100000 in
theorem isPer_calls (n a d : Nat) (h2 : 2 ≤ n) (hn : n ≤ 24) (ha : a < 2 ^ n) (h1 : 1 ≤ d) (hd : d ≤ n) (w : World) :
    Calls Tryd.prog 66 #[.int .i64 (n : Int), .int .i64 (a : Int), .int .i64 (d : Int)] w fun e w' => e = .returned (.bool (isPer n a d)) ∧ Drawn0 w w' := by
  have hm := Aside0.mk (move_eq n a d hn ha hd)
  have hd1 : (1 : Int) ≤ (d : Int) := by omega
  have hd0 : ¬ d = 0 := by omega
  have ht : Int.tmod (n : Int) (d : Int) = ((n % d : Nat) : Int) := rfl
  have hp : isPer n a d = (Nat.beq (n % d) 0 && Nat.beq (rot n a d) a) := rfl
  obtain ⟨R, hR⟩ : ∃ R, rot n a d = R := ⟨_, rfl⟩
  obtain ⟨Q, hQ⟩ : ∃ Q, n % d = Q := ⟨_, rfl⟩
  rw [hR] at hm hp
  rw [hQ] at ht hp
  clear hR hQ
  by_cases hq : Q = 0
  · subst hq
    replace ht : Int.tmod (n : Int) (d : Int) = 0 := ht
    by_cases hr : R = a
    · subst hr
      replace hp : isPer n R d = true := by rw [hp]; simp
      rw [hp]
      clear hp
      go_enter Tryd.func66, Tryd.ntmps66
      go_wp2_with fail
      refine (canon_circle_move.calls _ _ _ _ _ hm.out).mono ?_
      rintro e w2 ⟨rfl, hD⟩
      obtain ⟨m, rfl⟩ := hD
      go_wp2
      go_ret
      exact ⟨rfl, ⟨_, rfl⟩⟩
    · replace hp : isPer n a d = false := by
        rw [hp]
        have : Nat.beq R a = false := by
          cases hb : Nat.beq R a with
          | false => rfl
          | true => exact absurd (Nat.eq_of_beq_eq_true hb) hr
        rw [this]; rfl
      rw [hp]
      have hr1 : ((R : Int) == (a : Int)) = false := by rw [beq_eq_false_iff_ne]; omega
      clear hp
      go_enter Tryd.func66, Tryd.ntmps66
      go_wp2_with fail
      refine (canon_circle_move.calls _ _ _ _ _ hm.out).mono ?_
      rintro e w2 ⟨rfl, hD⟩
      obtain ⟨m, rfl⟩ := hD
      go_wp2
      go_ret
      exact ⟨rfl, ⟨_, rfl⟩⟩
  · replace hp : isPer n a d = false := by
      rw [hp]
      have : Nat.beq Q 0 = false := by
        cases hb : Nat.beq Q 0 with
        | false => rfl
        | true => exact absurd (Nat.eq_of_beq_eq_true hb) hq
      rw [this]; rfl
    rw [hp]
    have hq1 : ((Q : Int) == 0) = false := by rw [beq_eq_false_iff_ne]; omega
    clear hp
    go_enter Tryd.func66, Tryd.ntmps66
    go_wp2
    go_ret
    exact ⟨rfl, ⟨0, rfl⟩⟩

set_option maxHeartbeats 1000000 in
set_option maxRecDepth 100000 in
theorem per_calls (n a : Nat) (h2 : 2 ≤ n) (hn : n ≤ 24) (ha : a < 2 ^ n) (w : World) :
    Calls Tryd.prog 40 #[.int .i64 (n : Int), .int .i64 (a : Int)] w fun e w' => e = .returned (.int .i64 ((per n a : Nat) : Int)) ∧ Drawn0 w w' := by
  obtain ⟨p1, p2, p3, p4⟩ := per_spec n a (by omega) ha
  obtain ⟨P, hP⟩ : ∃ P, per n a = P := ⟨_, rfl⟩
  rw [hP] at p1 p2 p3 p4 ⊢
  clear hP
  replace p3 := Aside0.mk p3
  replace p4 := Aside0.mk p4
  have HI := Aside0.mk (fun d h1 hd w => isPer_calls n a d h2 hn ha h1 hd w)
  go_enter Tryd.func40, Tryd.ntmps40
  go_wp2
  go_loopw [5] (fun v wr => ∃ d : Nat, v = .int .i64 (d : Int) ∧ 1 ≤ d ∧ d ≤ P ∧ Aside0 (Drawn0 w wr)) (fun v _ => (P - intOf v).toNat)
  case atStart => exact ⟨1, rfl, by omega, by omega, ⟨Drawn0.refl _⟩⟩
  case round =>
    obtain ⟨d, rfl, hd1, hd2, hD⟩ := hrel
    have hc := HI.out d hd1 (by omega) wr
    by_cases hdp : d = P
    · subst hdp
      rw [p3.out] at hc
      replace hc := Aside0.mk hc
      go_wp2_with fail
      refine hc.out.mono ?_
      rintro e w2 ⟨rfl, hD2⟩
      obtain ⟨m, rfl⟩ := hD2
      go_wp2
      go_ret
      exact ⟨rfl, Drawn0.step hD.out _⟩
    · rw [p4.out d hd1 (by omega)] at hc
      replace hc := Aside0.mk hc
      go_wp2_with fail
      refine hc.out.mono ?_
      rintro e w2 ⟨rfl, hD2⟩
      obtain ⟨m, rfl⟩ := hD2
      go_wp2
      go_roundw
      case measure => simp [intOf]; omega
      case rel => exact ⟨d + 1, by go_num, by omega, by omega, ⟨Drawn0.step hD.out _⟩⟩

set_option maxHeartbeats 1000000 in
set_option maxRecDepth 100000 in
theorem Period_calls (n a : Nat) (h2 : 2 ≤ n) (hn : n ≤ 24) (ha : a < 2 ^ n) (w : World) (h : canon_circle_valid.f (n : Int) [(a : Int)] = some true) :
    Calls Tryd.prog 17 #[.int .i64 (n : Int), .int .i64 (a : Int)] w fun e w' => e = .returned (.tuple #[.int .i64 ((per n a : Nat) : Int), .int .i64 0]) ∧ Below w.heap.size w w' := by
  have H := Aside0.mk h
  clear h
  have HI := Aside0.mk (per_calls n a h2 hn ha)
  go_enter Tryd.func17, Tryd.ntmps17
  go_wp2_with fail
  refine (canon_circle_valid.calls _ _ 1 [(a : Int)] true _ (C_one w a _) (by simp) H.out).mono ?_
  rintro e w2 ⟨rfl, hb⟩
  replace hb := Aside0.mk hb
  go_wp2_with fail
  refine (HI.out _).mono ?_
  rintro e w3 ⟨rfl, hD⟩
  obtain ⟨m, rfl⟩ := hD
  go_wp2
  go_ret2
  exact ⟨rfl, pw_below_drewN (below_step ((Below.refl _ _).alloc (Nat.le_refl _) _) hb.out) _⟩

/-! ### Nothing is sorted -/
set_option maxHeartbeats 1000000 in
set_option maxRecDepth 100000 in
theorem len64_zero (w : World) : Calls Tryd.prog 97 #[.int .u64 0] w fun e w' => e = .returned (.int .i64 0) ∧ w' = w := by
  go_enter Tryd.func97, Tryd.ntmps97
  go_wp2
  go_ret
  exact ⟨by kernel_rfl, rfl⟩
set_option maxHeartbeats 1000000 in
set_option maxRecDepth 100000 in
theorem len_zero (w : World) : Calls Tryd.prog 69 #[.int .u64 0] w fun e w' => e = .returned (.int .i64 0) ∧ w' = w := by
  go_enter Tryd.func69, Tryd.ntmps69
  go_wp2_with fail
  refine (len64_zero _).mono ?_
  rintro e w2 ⟨rfl, rfl⟩
  go_wp2
  go_ret
  exact ⟨rfl, rfl⟩
set_option maxHeartbeats 1000000 in
set_option maxRecDepth 100000 in
theorem ins_zero (f : Value) (w : World) : Calls Tryd.prog 88 #[.slice none 0 0, .int .i64 0, .int .i64 0, f] w fun e w' => e = .returned (.tuple #[]) ∧ w' = w := by
  go_enter Tryd.func88, Tryd.ntmps88
  go_wp2
  go_loopw [8] (fun v wr => v = .int .i64 1 ∧ wr = w) (fun v _ => 0)
  case atStart => exact ⟨rfl, rfl⟩
  case round =>
    obtain ⟨rfl, rfl⟩ := hrel
    go_wp2
    go_end0
    exact ⟨rfl, rfl⟩
set_option maxHeartbeats 1000000 in
set_option maxRecDepth 100000 in
theorem pdq_zero (f : Value) (w : World) : Calls Tryd.prog 68 #[.slice none 0 0, .int .i64 0, .int .i64 0, .int .i64 0, f] w fun e w' => e = .returned (.tuple #[]) ∧ w' = w := by
  go_enter Tryd.func68, Tryd.ntmps68
  go_wp2
  go_loopw [1, 2, 3] (fun u v v' wr => u = .int .i64 0 ∧ v = .int .i64 0 ∧ v' = .int .i64 0 ∧ wr = w) (fun _ _ _ _ => 0)
  case atStart => exact ⟨rfl, rfl, rfl, rfl⟩
  case round =>
    obtain ⟨rfl, rfl, rfl, rfl⟩ := hrel
    go_wp2_with fail
    refine (ins_zero _ _).mono ?_
    rintro e w2 ⟨rfl, rfl⟩
    go_wp2
    refine bodyPost_ret (results_none rfl _ _ _) rfl ?_
    exact ⟨rfl, rfl⟩
set_option maxHeartbeats 1000000 in
set_option maxRecDepth 100000 in
theorem sort_zero (f : Value) (w : World) : Calls Tryd.prog 44 #[.slice none 0 0, f] w fun e w' => e = .returned (.tuple #[]) ∧ w' = w := by
  go_enter Tryd.func44, Tryd.ntmps44
  go_wp2_with fail
  refine (len_zero _).mono ?_
  rintro e w2 ⟨rfl, rfl⟩
  go_wp2_with fail
  refine (pdq_zero _ _).mono ?_
  rintro e w2 ⟨rfl, rfl⟩
  go_wp2
  go_end0
  exact ⟨rfl, rfl⟩
/-! ### Plain -/
theorem quiet_of0 {P : Program} {f : FuncId} {args : Array Value} {w : World} {n : Nat} {v : Value} (h : Calls P f args (w.drewN n) fun e w' => e = .returned v ∧ Drawn0 (w.drewN n) w') :
    Calls P f args (w.drewN n) fun e w'' => e = .returned v ∧ ∃ m, w'' = w.drewN m :=
  h.mono fun _ _ ⟨he, m, hm⟩ => ⟨he, n + m, by rw [hm, World.drewN_drewN]⟩
theorem plain1_enters : Enters Tryd.prog 43 := enters_of Tryd.func43 (by kernel_rfl) rfl
/-- What Plain keeps: its boxes at i, i + 1; the rows' box at O, empty; the rhythm's box at q. -/
structure J43 (n i O q A : Nat) (w : World) : Prop where
  b0 : w.heap[i]? = some (.cells #[.int .i64 (n : Int)] 3 (0, 0))
  b1 : w.heap[i + 1]? = some (.cells #[.int .i64 (n : Int)] 45 (0, 0))
  b2 : w.heap[O]? = some (.cells #[.slice none 0 0] 33 (0, 0))
  b3 : w.heap[q]? = some (.cells #[.int .i64 (A : Int)] 3 (0, 0))
theorem J43.alloc {n i O q A : Nat} {w : World} (h : J43 n i O q A w) (o : Obj) : J43 n i O q A (w.alloc o) := ⟨blk_alloc h.b0 o, blk_alloc h.b1 o, blk_alloc h.b2 o, blk_alloc h.b3 o⟩
theorem J43.drewN {n i O q A : Nat} {w : World} (h : J43 n i O q A w) (m : Nat) : J43 n i O q A (w.drewN m) := ⟨h.b0, h.b1, h.b2, h.b3⟩
theorem one_cell {w : World} {q : Nat} {v : Value} {t : TypeId} (h : w.heap[q]? = some (.cells #[v] t (0, 0))) : w.cell? ⟨q, 0, none⟩ = some v := (blk_cell h 0).trans rfl
set_option maxHeartbeats 1000000 in
set_option maxRecDepth 100000 in
theorem more_plain (n a i O q A Bn Bm Ba Bf B : Nat) (h2 : 2 ≤ n) (hn : n ≤ 24) : More n a 43 #[.pointer (some ⟨i + 1, 0, none⟩), .pointer (some ⟨i, 0, none⟩), .pointer (some ⟨O, 0, none⟩), .pointer (some ⟨q, 0, none⟩)] Bn Bm Ba Bf B (fun (s : Unit) _ => (s, true)) (fun _ => J43 n i O q A) (fun b => b < 2 ^ n ∧ per n b ≠ n) := by
  intro s b w hJ hB hb
  have k1 := one_cell hJ.b0
  have k0 := one_cell hJ.b1
  obtain ⟨hb1, hb2⟩ := hb
  have HI := Aside0.mk (per_calls n b h2 hn hb1)
  obtain ⟨P, hP⟩ : ∃ P, per n b = P := ⟨_, rfl⟩
  rw [hP] at HI hb2
  clear hP
  have hpn : ((P : Int) == (n : Int)) = false := by rw [beq_eq_false_iff_ne]; omega
  have K := Aside0.mk hJ
  clear hJ
  clear hB
  go_enter Tryd.func43, Tryd.ntmps43
  go_wp2
  go_quiet ((go_at_call 40; exact quiet_of0 (HI.out _)))
  go_wp2
  go_ret
  exact ⟨rfl, K.out.drewN _, gb_drewN _ _ _⟩
/-- The first boxes. -/
theorem two_boxes (n : Int) (w w0 : World) (h : (w.alloc (Obj.cells #[Value.int IntKind.i64 n] 3)).alloc (Obj.cells #[Value.int IntKind.i64 n] 45) = w0) :
    Below w.heap.size w w0 ∧ w0.heap[w.heap.size]? = some (.cells #[.int .i64 n] 3 (0, 0)) ∧ w0.heap[w.heap.size + 1]? = some (.cells #[.int .i64 n] 45 (0, 0)) ∧ w0.heap.size = w.heap.size + 2 := by
  rw [← h]
  refine ⟨((Below.refl _ _).alloc (Nat.le_refl _) _).alloc (by simp) _, blk_alloc (blk_new w _) _, ?_, by simp⟩
  have := blk_new (w.alloc (Obj.cells #[Value.int IntKind.i64 n] 3)) (Obj.cells #[Value.int IntKind.i64 n] 45)
  rwa [World.size_alloc] at this
set_option maxHeartbeats 1000000 in
set_option maxRecDepth 100000 in
theorem Plain_no (n : Int) (w : World) (h : ¬ (2 ≤ n ∧ n ≤ 16)) : Calls Tryd.prog 18 #[.int .i64 n] w fun e w' => e = .returned (.tuple #[.slice none 0 0, .int .i64 2]) ∧ Below w.heap.size w w' := by
  obtain ⟨w0, hw0⟩ : ∃ w0 : World, (w.alloc (Obj.cells #[Value.int IntKind.i64 n] 3)).alloc (Obj.cells #[Value.int IntKind.i64 n] 45) = w0 := ⟨_, rfl⟩
  obtain ⟨hb0, e0, e1, _⟩ := two_boxes n w w0 hw0
  have c0 := one_cell e0
  have c1 := one_cell e1
  clear e0 e1
  replace hb0 := Aside0.mk hb0
  by_cases h1 : (decide (2 ≤ n) && decide (n ≤ 24)) = true
  · have hv : canon_circle_valid.f n [] = some true := by rw [valid_eq n [] (by simp)]; simpa using h1
    have h16 : (16 : Int) < n := by simp at h1; omega
    have HV := Aside0.mk hv
    clear hv h1 h
    go_enter Tryd.func18, Tryd.ntmps18
    go_wp2_with fail
    refine (canon_circle_valid.calls n none 0 [] true _ ⟨rfl, by simp, fun h => absurd h (by simp)⟩ (by simp) HV.out).mono ?_
    rintro e w2 ⟨rfl, hb⟩
    (try rw [hw0] at hb)
    have k0 := pw_cell_below hb c0
    replace hb := Aside0.mk hb
    clear hw0 c0 c1
    go_wp2
    go_ret2
    exact ⟨rfl, below_step hb0.out hb.out⟩
  · have hv : canon_circle_valid.f n [] = some false := by rw [valid_eq n [] (by simp)]; simpa using h1
    have HV := Aside0.mk hv
    clear hv h1 h
    go_enter Tryd.func18, Tryd.ntmps18
    go_wp2_with fail
    refine (canon_circle_valid.calls n none 0 [] false _ ⟨rfl, by simp, fun h => absurd h (by simp)⟩ (by simp) HV.out).mono ?_
    rintro e w2 ⟨rfl, hb⟩
    (try rw [hw0] at hb)
    replace hb := Aside0.mk hb
    clear hw0 c0 c1
    go_wp2
    go_ret2
    exact ⟨rfl, below_step hb0.out hb.out⟩

def meas (F : Nat) (v : Value) (w : World) : Nat := match v with | .pointer (some a) => (F + 2 - intOf ((w.cell? a).getD undef)).toNat | _ => 0
theorem meas_at {F q A : Nat} {w : World} (h : w.cell? ⟨q, 0, none⟩ = some (.int .i64 (A : Int))) (hA : A ≤ F + 2) : meas F (.pointer (some ⟨q, 0, none⟩)) w = F + 2 - A := by
  unfold meas
  simp only [h, Option.getD_some, intOf]
  omega
set_option maxHeartbeats 2000000 in
set_option maxRecDepth 100000 in
theorem Plain_yes (n : Nat) (h2 : 2 ≤ n) (hn : n ≤ 16) (w : World) (hT : Deb w) : Calls Tryd.prog 18 #[.int .i64 (n : Int)] w fun e w' => e = .returned (.tuple #[.slice none 0 0, .int .i64 0]) ∧ Below w.heap.size w w' := by
  have hmf : ∀ (fn : Fn) (first cap : Array Value) (w : World), (Instr.makeFunc fn first cap).run Tryd.prog w = .ok (.func fn first cap) w := fun _ _ _ _ => rfl
  obtain ⟨w0, hw0⟩ : ∃ w0 : World, (w.alloc (Obj.cells #[Value.int IntKind.i64 (n : Int)] 3)).alloc (Obj.cells #[Value.int IntKind.i64 (n : Int)] 45) = w0 := ⟨_, rfl⟩
  obtain ⟨hb0, e0, e1, hsz⟩ := two_boxes n w w0 hw0
  have c0 := one_cell e0
  have c1 := one_cell e1
  replace e0 := Aside0.mk e0
  replace e1 := Aside0.mk e1
  replace hb0 := Aside0.mk hb0
  have hv : canon_circle_valid.f (n : Int) [] = some true := by rw [valid_eq _ [] (by simp)]; simp; omega
  have HV := Aside0.mk hv
  have h16 : ¬ (16 : Int) < (n : Int) := by omega
  have HT := Aside0.mk hT
  have HA := Aside0.mk (all_eq n (by omega))
  have hp1 := Nat.two_pow_pos n
  have hp2 : 2 ^ n ≤ 2 ^ 24 := Nat.pow_le_pow_right (by decide) (by omega)
  obtain ⟨F, hF⟩ : ∃ F, 2 ^ n - 1 = F := ⟨_, rfl⟩
  rw [hF] at HA
  have hFn : F < 16777216 := by omega
  replace hsz := Aside0.mk hsz
  replace hF := Aside0.mk hF
  clear hv hT
  go_enter Tryd.func18, Tryd.ntmps18
  go_wp2_with fail
  refine (canon_circle_valid.calls _ none 0 [] true _ ⟨rfl, by simp, fun h => absurd h (by simp)⟩ (by simp) HV.out).mono ?_
  rintro e w2 ⟨rfl, hb⟩
  (try rw [hw0] at hb)
  have k0 := pw_cell_below hb c0
  have hb2 := Aside0.mk (below_step hb0.out hb)
  have k1 := pw_cell_below hb c1
  have hsz2 : w.heap.size + 2 ≤ w2.heap.size := by have := hb.size; rw [hsz.out] at this; exact this
  have E0 := Aside0.mk (blk_below e0.out hb (by rw [hsz.out]; omega))
  have E1 := Aside0.mk (blk_below e1.out hb (by rw [hsz.out]; omega))
  clear hb c0 c1 hw0 hsz hb0 e0 e1
  obtain ⟨I, hI⟩ : ∃ I, w.heap.size = I := ⟨_, rfl⟩
  rw [hI] at k0 k1 hsz2 E0 E1
  go_wp2_with fail
  (try rw [hI])
  obtain ⟨O, hO⟩ : ∃ O, w2.heap.size = O := ⟨_, rfl⟩
  have hst : J43 n I O (O + 1) 1 ((w2.alloc (Obj.cells #[Value.slice none 0 0] 33)).alloc (Obj.cells #[Value.int IntKind.i64 1] 3)) := by
    refine ⟨blk_alloc (blk_alloc E0.out _) _, blk_alloc (blk_alloc E1.out _) _, blk_alloc (by rw [← hO]; exact blk_new w2 _) _, ?_⟩
    have := blk_new (w2.alloc (Obj.cells #[Value.slice none 0 0] 33)) (Obj.cells #[Value.int IntKind.i64 1] 3)
    rw [World.size_alloc, hO] at this
    exact this
  have hbs : Below w.heap.size w ((w2.alloc (Obj.cells #[Value.slice none 0 0] 33)).alloc (Obj.cells #[Value.int IntKind.i64 1] 3)) := below_step hb2.out (((Below.refl _ _).alloc (Nat.le_refl _) _).alloc (by simp) _)
  have hOl : w.heap.size ≤ O := by omega
  replace hst := Aside0.mk hst
  replace hbs := Aside0.mk hbs
  replace hI := Aside0.mk hI
  replace hO' := Aside0.mk hO
  rw [hO]
  clear E0 E1 k0 k1 hb2 hO
  go_loopw [6] (fun v wr => ∃ A q : Nat, v = .pointer (some ⟨q, 0, none⟩) ∧ A % 2 = 1 ∧ A ≤ F + 2 ∧ w.heap.size ≤ q ∧ Aside0 (J43 n I O q A wr) ∧ Aside0 (Below w.heap.size w wr)) (fun v wr => meas F v wr)
  case atStart => exact ⟨1, O + 1, rfl, rfl, by omega, by omega, hst, hbs⟩
  case round =>
    obtain ⟨A, q, rfl, hA1, hA2, hq, hJ, hB⟩ := hrel
    have j0 := one_cell hJ.out.b0
    have j1 := one_cell hJ.out.b1
    have j2 := one_cell hJ.out.b2
    have j3 := one_cell hJ.out.b3
    by_cases hAF : A ≤ F
    · have hAF1 : (A : Int) ≤ (F : Int) := by omega
      have hAn : A < 2 ^ n := by have := hF.out; omega
      have hA0 : A.testBit 0 = true := by rw [Nat.testBit_zero, hA1]; rfl
      have hw2 : IntKind.i64.wrap ((A : Int) + 2) = ((A + 2 : Nat) : Int) := by rw [IntKind.wrap_i64]; omega
      have HC := Aside0.mk (count_bits n A (by omega) hAn)
      have HPr := Aside0.mk (per_calls n A h2 (by omega) hAn)
      have hper := Aside0.mk (fun (hp : per n A = n) (b : Nat) (hb : b ∈ parts n A) => (show b < 2 ^ n ∧ per n b ≠ n from by
        have hm := (parts_mem h2 hAn hA0 b).mp hb
        have := tile_per n A b h2 (by omega) hAn hm.1 hA0 hm.2.1 hm.2.2
        exact ⟨hm.1, by omega⟩))
      have hC1 : 0 < (bitsL n A).length := List.length_pos_of_mem (mem_bitsL.mpr ⟨by omega, hA0⟩)
      obtain ⟨C, hC⟩ : ∃ C, (bitsL n A).length = C := ⟨_, rfl⟩
      rw [hC] at HC hC1
      obtain ⟨P, hP⟩ : ∃ P, per n A = P := ⟨_, rfl⟩
      rw [hP] at HPr hper
      have hC0 : ¬ C = 0 := by omega
      have ht : Int.tmod (n : Int) (C : Int) = ((n % C : Nat) : Int) := rfl
      obtain ⟨Q, hQ⟩ : ∃ Q, n % C = Q := ⟨_, rfl⟩
      rw [hQ] at ht
      clear hC hP hQ hp1 hp2
      by_cases hQ0 : Q = 0
      · subst hQ0
        replace ht : Int.tmod (n : Int) (C : Int) = 0 := ht
        by_cases hPn : P = n
        · rw [hPn] at HPr hper
          clear hPn
          go_wp2
          go_quiet ((go_at_call 41; exact quiet_of0 (canon_circle_all.calls _ _ _ HA.out)))
          go_wp2
          go_quiet ((first | (go_at_call 42; first | exact quiet_of0 (canon_count.calls _ _ _ HC.out) | exact quiet_of' (canon_count.calls _ _ _ HC.out)) | (go_at_call 40; first | exact quiet_of0 (HPr.out _) | exact quiet_of' (HPr.out _))))
          go_wp2_with fail
          refine (partners_calls n A 43 #[.pointer (some ⟨I + 1, 0, none⟩), .pointer (some ⟨I, 0, none⟩), .pointer (some ⟨O, 0, none⟩), .pointer (some ⟨q, 0, none⟩)] O (fun (s : Unit) _ => (s, true)) (fun _ => J43 n I O q A) (fun b => b < 2 ^ n ∧ per n b ≠ n) h2 (by omega) hAn plain1_enters (fun _ _ m h => h.drewN m) (fun _ _ o h => h.alloc o) (hper.out trivial) () _ (by exact hJ.out.drewN _) (by exact HT.out.below (pw_below_drewN hB.out _)) (by exact blk_lt hJ.out.b2) (by have := HT.out.lt; omega) (fun Bn Bm Ba Bf => more_plain n A I O q A Bn Bm Ba Bf O h2 (by omega))).mono ?_
          rintro e w5 ⟨rfl, hJ5, hg5⟩
          have hb5 := below_of_gb (base := w.heap.size) hg5 hOl (by have := hB.out.size; simpa using this)
          have hB5 := Aside0.mk ((pw_below_drewN hB.out _).trans hb5)
          replace hJ5 := Aside0.mk hJ5
          have j5 := one_cell hJ5.out.b3
          clear hg5 hb5
          go_wp2
          have hf := blk_new w5 (Obj.cells #[Value.int IntKind.i64 ((A : Int) + 2)] 3)
          go_roundw
          case measure =>
            rw [meas_at (A := A + 2) ((one_cell hf).trans (by simp)) (by omega), meas_at j3 (by omega)]
            omega
          case rel => exact ⟨A + 2, w5.heap.size, rfl, by omega, by omega, hB5.out.size, ⟨⟨blk_alloc hJ5.out.b0 _, blk_alloc hJ5.out.b1 _, blk_alloc hJ5.out.b2 _, by rw [hf]; simp⟩⟩, ⟨hB5.out.alloc hB5.out.size _⟩⟩
        · have hPn1 : ((P : Int) == (n : Int)) = false := by rw [beq_eq_false_iff_ne]; omega
          have hPn2 : ((P : Int) != (n : Int)) = true := by rw [bne_iff_ne]; omega
          go_wp2
          go_quiet ((go_at_call 41; exact quiet_of0 (canon_circle_all.calls _ _ _ HA.out)))
          go_wp2
          go_quiet ((first | (go_at_call 42; first | exact quiet_of0 (canon_count.calls _ _ _ HC.out) | exact quiet_of' (canon_count.calls _ _ _ HC.out)) | (go_at_call 40; first | exact quiet_of0 (HPr.out _) | exact quiet_of' (HPr.out _))))
          refine at_then (fun W => J43 n I O q A W ∧ Below w.heap.size w W) ⟨(hJ.out.drewN _).drewN _, pw_below_drewN (pw_below_drewN hB.out _) _⟩ (fun W hW => ?_)
          have j5 := one_cell hW.1.b3
          replace hW := Aside0.mk hW
          clear j0 j1 j2
          go_wp2
          have hf := blk_new W (Obj.cells #[Value.int IntKind.i64 ((A : Int) + 2)] 3)
          go_roundw
          case measure =>
            rw [meas_at (A := A + 2) ((one_cell hf).trans (by simp)) (by omega), meas_at j3 (by omega)]
            omega
          case rel => exact ⟨A + 2, W.heap.size, rfl, by omega, by omega, hW.out.2.size, ⟨⟨blk_alloc hW.out.1.b0 _, blk_alloc hW.out.1.b1 _, blk_alloc hW.out.1.b2 _, by rw [hf]; simp⟩⟩, ⟨hW.out.2.alloc hW.out.2.size _⟩⟩
      · have hQ1 : ((Q : Int) == 0) = false := by rw [beq_eq_false_iff_ne]; omega
        have hQ2 : ((Q : Int) != 0) = true := by rw [bne_iff_ne]; omega
        go_wp2
        go_quiet ((go_at_call 41; exact quiet_of0 (canon_circle_all.calls _ _ _ HA.out)))
        go_wp2
        go_quiet ((first | (go_at_call 42; first | exact quiet_of0 (canon_count.calls _ _ _ HC.out) | exact quiet_of' (canon_count.calls _ _ _ HC.out)) | (go_at_call 40; first | exact quiet_of0 (HPr.out _) | exact quiet_of' (HPr.out _))))
        refine at_then (fun W => J43 n I O q A W ∧ Below w.heap.size w W) ⟨(hJ.out.drewN _).drewN _, pw_below_drewN (pw_below_drewN hB.out _) _⟩ (fun W hW => ?_)
        have j5 := one_cell hW.1.b3
        replace hW := Aside0.mk hW
        clear j0 j1 j2
        go_wp2
        have hf := blk_new W (Obj.cells #[Value.int IntKind.i64 ((A : Int) + 2)] 3)
        go_roundw
        case measure =>
          rw [meas_at (A := A + 2) ((one_cell hf).trans (by simp)) (by omega), meas_at j3 (by omega)]
          omega
        case rel => exact ⟨A + 2, W.heap.size, rfl, by omega, by omega, hW.out.2.size, ⟨⟨blk_alloc hW.out.1.b0 _, blk_alloc hW.out.1.b1 _, blk_alloc hW.out.1.b2 _, by rw [hf]; simp⟩⟩, ⟨hW.out.2.alloc hW.out.2.size _⟩⟩
    · have hAF1 : ¬ (A : Int) ≤ (F : Int) := by omega
      go_wp2
      go_quiet ((go_at_call 41; exact quiet_of0 (canon_circle_all.calls _ _ _ HA.out)))
      go_wp2_with fail
      refine (sort_zero _ _).mono ?_
      rintro e w5 ⟨rfl, rfl⟩
      go_wp2
      go_ret2
      exact ⟨rfl, pw_below_drewN hB.out _⟩

/-! ### The law -/
set_option maxHeartbeats 2000000 in
set_option maxRecDepth 100000 in
theorem hajos_no (n a : Int) (w : World) (h2 : canon_circle_valid.f n [a] = some false) :
    Calls Tryd.prog 5 #[.int .i64 n, .int .i64 a] w fun e w' => e = .returned (.bool true) ∧ Below w.heap.size w w' := by
  replace h2 := Aside0.mk h2
  go_enter Tryd.func5, Tryd.ntmps5
  go_wp2_with fail
  refine (partner_no n a _ h2.out).mono ?_
  rintro e w2 ⟨rfl, hb2⟩
  replace hb2 := Aside0.mk hb2
  go_wp2_with fail
  refine (sackbutlaw02_awake.calls 100 true _ awake_ok).mono ?_
  rintro e w4 ⟨rfl, hb4⟩
  replace hb4 := Aside0.mk hb4
  go_wp2
  go_ret
  exact ⟨rfl, below_step hb2.out hb4.out⟩
theorem badR_of (n b : Nat) (h2 : 2 ≤ n) (hn : n ≤ 24) (hb : b < 2 ^ n) (hb0 : b.testBit 0 = true) : badR (n : Int) (b : Int) = false := by
  rcases rhythm_cases (n : Int) (b : Int) with ⟨h1, h3⟩ | ⟨_, h3, _⟩
  · exfalso
    obtain ⟨e1, e2⟩ := shl_at n hn
    have h24 := p24 hn hb
    have hbb : Go.bits .and .i64 (b : Int) 1 = 1 := by
      rw [and_one _ (by omega) (by omega)]
      have h0 : b % 2 = 1 := by simpa [Nat.testBit_zero] using hb0
      omega
    unfold badR at h3
    rw [Int.toNat_natCast, e1, hbb, decide_eq_true (show (2 : Int) ≤ n by omega), decide_eq_true (show (n : Int) ≤ 24 by omega), decide_eq_false (show ¬ (b : Int) < 0 by omega), decide_eq_false (show ¬ ((2 ^ n : Nat) : Int) ≤ b by omega)] at h3
    cases h3
  · exact h3
set_option maxHeartbeats 2000000 in
set_option maxRecDepth 100000 in
theorem hajos_yes (n a : Nat) (h2 : 2 ≤ n) (hn : n ≤ 24) (ha : a < 2 ^ n) (ha0 : a.testBit 0 = true) (w : World) (hT : Deb w) (h1 : sackbutref02_Rhythm.f (n : Int) (a : Int) = some true) (hv : canon_circle_valid.f (n : Int) [(a : Int)] = some true) :
    Calls Tryd.prog 5 #[.int .i64 (n : Int), .int .i64 (a : Int)] w fun e w' => e = .returned (.bool true) ∧ Below w.heap.size w w' := by
  have hP := partner_yes n a h2 hn ha w hT hv
  have HT := Aside0.mk hT
  rcases hp : parts n a with _ | ⟨c, l⟩
  · unfold leastE at hP
    rw [least_none hp, if_pos rfl] at hP
    replace hP := Aside0.mk hP
    clear hp hv hT h1
    go_enter Tryd.func5, Tryd.ntmps5
    go_wp2_with fail
    refine hP.out.mono ?_
    rintro e w2 ⟨rfl, hb2⟩
    replace hb2 := Aside0.mk hb2
    go_wp2_with fail
    refine (sackbutlaw02_awake.calls 100 true _ awake_ok).mono ?_
    rintro e w4 ⟨rfl, hb4⟩
    replace hb4 := Aside0.mk hb4
    go_wp2
    go_ret
    exact ⟨rfl, below_step hb2.out hb4.out⟩
  · obtain ⟨b, hb, hl, hb0, hle⟩ := least_some h2 ha ha0 (by rw [hp]; simp)
    unfold leastE at hP
    rw [hl, if_neg (by omega)] at hP
    have hbm := (parts_mem h2 ha ha0 b).mp hb
    have hper := tile_per n a b h2 hn ha hbm.1 ha0 hbm.2.1 hbm.2.2
    have hvb := valid1 n b h2 hn (badR_of n b h2 hn hbm.1 hbm.2.1)
    have HPa := Aside0.mk (fun w => Period_calls n a h2 hn ha w hv)
    have HPb := Aside0.mk (fun w => Period_calls n b h2 hn hbm.1 w hvb)
    obtain ⟨p, hpp⟩ : ∃ p, per n a = p := ⟨_, rfl⟩
    obtain ⟨q, hqq⟩ : ∃ q, per n b = q := ⟨_, rfl⟩
    rw [hpp] at HPa hper
    rw [hqq] at HPb hper
    replace h1 := Aside0.mk h1
    replace hP := Aside0.mk hP
    clear hp hv hT hl hbm hle hb hvb hpp hqq
    by_cases h16 : n ≤ 16
    · have HL := Aside0.mk (fun w hd => Plain_yes n h2 h16 w hd)
      by_cases hpn : p < n
      · have hpn1 : (p : Int) < (n : Int) := by omega
        go_enter Tryd.func5, Tryd.ntmps5
        go_wp2_with fail
        refine hP.out.mono ?_
        rintro e w2 ⟨rfl, hb2⟩
        replace hb2 := Aside0.mk hb2
        go_wp2_with fail
        refine (sackbutref02_Rhythm.calls _ _ _ _ h1.out).mono ?_
        rintro e w3 ⟨rfl, hD3⟩
        obtain ⟨m3, rfl⟩ := hD3
        go_wp2_with fail
        refine (HPa.out _).mono ?_
        rintro e w4 ⟨rfl, hb4⟩
        replace hb4 := Aside0.mk hb4
        go_wp2_with fail
        refine (HPb.out _).mono ?_
        rintro e w5 ⟨rfl, hb5⟩
        have hb6 := Aside0.mk (below_step (below_step (pw_below_drewN hb2.out _) hb4.out) hb5)
        clear hb5
        go_wp2_with fail
        refine (HL.out _ (HT.out.below hb6.out)).mono ?_
        rintro e w7 ⟨rfl, hb7⟩
        replace hb7 := Aside0.mk hb7
        go_wp2_with fail
        refine (sackbutlaw02_awake.calls 100 true _ awake_ok).mono ?_
        rintro e w8 ⟨rfl, hb8⟩
        replace hb8 := Aside0.mk hb8
        go_wp2
        go_ret
        exact ⟨rfl, below_step (below_step hb6.out hb7.out) hb8.out⟩
      · have hpn1 : ¬ (p : Int) < (n : Int) := by omega
        have hqn : q < n := by omega
        have hqn1 : (q : Int) < (n : Int) := by omega
        go_enter Tryd.func5, Tryd.ntmps5
        go_wp2_with fail
        refine hP.out.mono ?_
        rintro e w2 ⟨rfl, hb2⟩
        replace hb2 := Aside0.mk hb2
        go_wp2_with fail
        refine (sackbutref02_Rhythm.calls _ _ _ _ h1.out).mono ?_
        rintro e w3 ⟨rfl, hD3⟩
        obtain ⟨m3, rfl⟩ := hD3
        go_wp2_with fail
        refine (HPa.out _).mono ?_
        rintro e w4 ⟨rfl, hb4⟩
        replace hb4 := Aside0.mk hb4
        go_wp2_with fail
        refine (HPb.out _).mono ?_
        rintro e w5 ⟨rfl, hb5⟩
        have hb6 := Aside0.mk (below_step (below_step (pw_below_drewN hb2.out _) hb4.out) hb5)
        clear hb5
        go_wp2_with fail
        refine (HL.out _ (HT.out.below hb6.out)).mono ?_
        rintro e w7 ⟨rfl, hb7⟩
        replace hb7 := Aside0.mk hb7
        go_wp2_with fail
        refine (sackbutlaw02_awake.calls 100 true _ awake_ok).mono ?_
        rintro e w8 ⟨rfl, hb8⟩
        replace hb8 := Aside0.mk hb8
        go_wp2
        go_ret
        exact ⟨rfl, below_step (below_step hb6.out hb7.out) hb8.out⟩
    · have h16i : (16 : Int) < (n : Int) := by omega
      have HL := Aside0.mk (fun w => Plain_no (n : Int) w (by omega))
      by_cases hpn : p < n
      · have hpn1 : (p : Int) < (n : Int) := by omega
        go_enter Tryd.func5, Tryd.ntmps5
        go_wp2_with fail
        refine hP.out.mono ?_
        rintro e w2 ⟨rfl, hb2⟩
        replace hb2 := Aside0.mk hb2
        go_wp2_with fail
        refine (sackbutref02_Rhythm.calls _ _ _ _ h1.out).mono ?_
        rintro e w3 ⟨rfl, hD3⟩
        obtain ⟨m3, rfl⟩ := hD3
        go_wp2_with fail
        refine (HPa.out _).mono ?_
        rintro e w4 ⟨rfl, hb4⟩
        replace hb4 := Aside0.mk hb4
        go_wp2_with fail
        refine (HPb.out _).mono ?_
        rintro e w5 ⟨rfl, hb5⟩
        have hb6 := Aside0.mk (below_step (below_step (pw_below_drewN hb2.out _) hb4.out) hb5)
        clear hb5
        go_wp2_with fail
        refine (HL.out _).mono ?_
        rintro e w7 ⟨rfl, hb7⟩
        replace hb7 := Aside0.mk hb7
        go_wp2_with fail
        refine (sackbutlaw02_awake.calls 100 true _ awake_ok).mono ?_
        rintro e w8 ⟨rfl, hb8⟩
        replace hb8 := Aside0.mk hb8
        go_wp2
        go_ret
        exact ⟨rfl, below_step (below_step hb6.out hb7.out) hb8.out⟩
      · have hpn1 : ¬ (p : Int) < (n : Int) := by omega
        have hqn : q < n := by omega
        have hqn1 : (q : Int) < (n : Int) := by omega
        go_enter Tryd.func5, Tryd.ntmps5
        go_wp2_with fail
        refine hP.out.mono ?_
        rintro e w2 ⟨rfl, hb2⟩
        replace hb2 := Aside0.mk hb2
        go_wp2_with fail
        refine (sackbutref02_Rhythm.calls _ _ _ _ h1.out).mono ?_
        rintro e w3 ⟨rfl, hD3⟩
        obtain ⟨m3, rfl⟩ := hD3
        go_wp2_with fail
        refine (HPa.out _).mono ?_
        rintro e w4 ⟨rfl, hb4⟩
        replace hb4 := Aside0.mk hb4
        go_wp2_with fail
        refine (HPb.out _).mono ?_
        rintro e w5 ⟨rfl, hb5⟩
        have hb6 := Aside0.mk (below_step (below_step (pw_below_drewN hb2.out _) hb4.out) hb5)
        clear hb5
        go_wp2_with fail
        refine (HL.out _).mono ?_
        rintro e w7 ⟨rfl, hb7⟩
        replace hb7 := Aside0.mk hb7
        go_wp2_with fail
        refine (sackbutlaw02_awake.calls 100 true _ awake_ok).mono ?_
        rintro e w8 ⟨rfl, hb8⟩
        replace hb8 := Aside0.mk hb8
        go_wp2
        go_ret
        exact ⟨rfl, below_step (below_step hb6.out hb7.out) hb8.out⟩
theorem hajos_calls (n a : Int) (w : World) (hT : Deb w) : Calls Tryd.prog 5 #[.int .i64 n, .int .i64 a] w fun e w' => e = .returned (.bool true) ∧ Below w.heap.size w w' := by
  rcases rhythm_cases n a with ⟨h1, h2⟩ | ⟨h1, h2, m, x, rfl, rfl, h3, h4, h5, h6⟩
  · exact hajos_no n a w (valid_no n a h2)
  · exact hajos_yes m x h3 h4 h5 h6 w hT h1 (valid1 m x h3 h4 h2)
end Go.Proofs.YtknlablmkcabkaaDoor.Hw
