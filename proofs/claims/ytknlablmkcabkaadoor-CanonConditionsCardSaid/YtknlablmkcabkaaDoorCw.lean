/- The walk of the statement CanonConditions. -/
import Derived.Test.YtknlablmkcabkaaDoorPar
import Derived.Test.YtknlablmkcabkaaDoorPo
namespace Go.Proofs.YtknlablmkcabkaaDoor.Cw
open Go.RowKit Go.Shelf Go.Proofs.YtknlablmkcabkaaDoorW.PrintWords Go.Proofs.YtknlablmkcabkaaDoorW.PrintLast Go.Proofs.YtknlablmkcabkaaDoorW.PrintMore Go.Proofs.YtknlablmkcabkaaDoorHnd QCanonConditions Til Pa
set_option linter.unusedVariables false
set_option linter.unusedSimpArgs false

theorem awake_ok : sackbutlaw02_awake.f 100 = some true := by decide +kernel
theorem valid_no (n a : Int) (h : (decide (2 ≤ n) && decide (n ≤ 24) && !badR n a) = false) : canon_circle_valid.f n [a] = some false := by
  rw [valid_eq n [a] (by simp)]
  simpa using h
theorem valid_yes (m x : Nat) (h3 : 2 ≤ m) (h4 : m ≤ 24) (h2 : badR (m : Int) (x : Int) = false) : canon_circle_valid.f (m : Int) [(x : Int)] = some true := by
  rw [valid_eq _ _ (by simp)]
  simp [h2]
  omega
theorem at_first (n a : Nat) (x : Bool) (hv : canon_circle_valid.f (n : Int) [(a : Int)] = some true) (h : Tot (fun k => canon_circle_first.f k (n : Int) (a : Int)) x) : ∃ k, canon_First.f k (n : Int) (a : Int) = some (x, 0) := by
  obtain ⟨k, h⟩ := h.exists_
  refine ⟨k, ?_⟩
  unfold canon_First.f
  rw [hv, Option.bind_some, if_pos rfl, h]
  rfl
theorem at_second (n a : Nat) (x : Bool) (hv : canon_circle_valid.f (n : Int) [(a : Int)] = some true) (h : canon_circle_second.f (n : Int) (a : Int) = some x) : canon_Second.f (n : Int) (a : Int) = some (x, 0) := by
  unfold canon_Second.f
  rw [hv, Option.bind_some, if_pos rfl, h]
  rfl
theorem badR_of (n b : Nat) (h2 : 2 ≤ n) (hn : n ≤ 24) (hb : b < 2 ^ n) (hb0 : b.testBit 0 = true) : badR (n : Int) (b : Int) = false := by
  rcases rhythm_cases (n : Int) (b : Int) with ⟨h1, h3⟩ | ⟨_, h3, _⟩
  · exfalso
    obtain ⟨e1, e2⟩ := shl_at n hn
    have h24 := p24 hn hb
    have hbb : Go.bits .and .i64 (b : Int) 1 = 1 := by
      rw [and_one _ (by omega) (by omega)]
      have h0 : b % 2 = 1 := by simpa [Nat.testBit_zero] using hb0
      omega
    unfold badR at h3
    rw [Int.toNat_natCast, e1, hbb, decide_eq_true (show (2 : Int) ≤ n by omega), decide_eq_true (show (n : Int) ≤ 24 by omega), decide_eq_false (show ¬ (b : Int) < 0 by omega), decide_eq_false (show ¬ ((2 ^ n : Nat) : Int) ≤ b by omega)] at h3
    cases h3
  · exact h3
theorem at_tiles (n a b : Nat) (h2 : 2 ≤ n) (hn : n ≤ 24) (ha : a < 2 ^ n) (ha0 : a.testBit 0 = true) (hb : b < 2 ^ n) (hb0 : b.testBit 0 = true) (hT : Tile n a b) : ∃ k, canon_Tiles.f k (n : Int) (a : Int) (b : Int) = some (true, 0) := by
  obtain ⟨r, hr, hiff⟩ := tiles_tot n a b h2 hn ha hb
  have := hiff.mpr hT
  subst this
  obtain ⟨k, h⟩ := hr.exists_
  refine ⟨k, ?_⟩
  unfold canon_Tiles.f
  have v : canon_circle_valid.f (n : Int) [(a : Int), (b : Int)] = some true := by
    rw [valid_eq _ _ (by simp)]
    simp [badR_of n a h2 hn ha ha0, badR_of n b h2 hn hb hb0]
    omega
  rw [v, Option.bind_some, if_pos rfl, h]
  rfl

set_option maxHeartbeats 2000000 in
set_option maxRecDepth 100000 in
theorem cond_no (n a : Int) (w : World) (h1 : sackbutref02_Rhythm.f n a = some false) (h2 : canon_circle_valid.f n [a] = some false) :
    Calls Tryd.prog 4 #[.int .i64 n, .int .i64 a] w fun e w' => e = .returned (.bool true) ∧ Below w.heap.size w w' := by
  replace h1 := Aside0.mk h1
  replace h2 := Aside0.mk h2
  go_enter Tryd.func4, Tryd.ntmps4
  go_wp2_with fail
  refine (partner_no n a _ h2.out).mono ?_
  rintro e w2 ⟨rfl, hb2⟩
  replace hb2 := Aside0.mk hb2
  go_wp2_with fail
  refine (sackbutref02_Rhythm.calls _ _ _ _ h1.out).mono ?_
  rintro e w3 ⟨rfl, hD3⟩
  obtain ⟨m3, rfl⟩ := hD3
  go_wp2_with fail
  refine (sackbutlaw02_awake.calls 100 true _ awake_ok).mono ?_
  rintro e w4 ⟨rfl, hb4⟩
  replace hb4 := Aside0.mk hb4
  go_wp2
  go_ret
  exact ⟨rfl, below_step (pw_below_drewN hb2.out _) hb4.out⟩

set_option maxHeartbeats 2000000 in
set_option maxRecDepth 100000 in
theorem cond_yes (n a : Nat) (h2 : 2 ≤ n) (hn : n ≤ 24) (ha : a < 2 ^ n) (ha0 : a.testBit 0 = true) (w : World) (hT : Deb w) (h1 : sackbutref02_Rhythm.f (n : Int) (a : Int) = some true) (hv : canon_circle_valid.f (n : Int) [(a : Int)] = some true) :
    Calls Tryd.prog 4 #[.int .i64 (n : Int), .int .i64 (a : Int)] w fun e w' => e = .returned (.bool true) ∧ Below w.heap.size w w' := by
  rcases cond_facts n a h2 hn ha ha0 hv with ⟨hp, x, y, hxy, hx, hy, hB⟩ | ⟨hp, hx, hy, c, hB, hc⟩
  · obtain ⟨k1, f1⟩ := at_first n a x hv hx
    have f2 := at_second n a y hv hy
    obtain ⟨k3, f3⟩ := hB.exists_
    have hP := partner_yes n a h2 hn ha w hT hv
    unfold leastE at hP
    rw [least_none hp, if_pos rfl] at hP
    replace h1 := Aside0.mk h1
    replace f1 := Aside0.mk f1
    replace f2 := Aside0.mk f2
    replace f3 := Aside0.mk f3
    replace hP := Aside0.mk hP
    clear hp hx hy hB hv hT
    go_enter Tryd.func4, Tryd.ntmps4
    go_wp2_with fail
    refine hP.out.mono ?_
    rintro e w2 ⟨rfl, hb2⟩
    replace hb2 := Aside0.mk hb2
    go_wp2_with fail
    refine (sackbutref02_Rhythm.calls _ _ _ _ h1.out).mono ?_
    rintro e w3 ⟨rfl, hD3⟩
    obtain ⟨m3, rfl⟩ := hD3
    go_wp2_with fail
    refine (canon_First.calls _ _ _ _ _ _ f1.out).mono ?_
    rintro e w4 ⟨rfl, hb4⟩
    replace hb4 := Aside0.mk hb4
    go_wp2_with fail
    refine (canon_Second.calls _ _ _ _ _ f2.out).mono ?_
    rintro e w5 ⟨rfl, hb5⟩
    replace hb5 := Aside0.mk hb5
    go_wp2_with fail
    refine (canon_Build.calls _ _ _ _ _ _ f3.out).mono ?_
    rintro e w6 ⟨rfl, hb6⟩
    replace hb6 := Aside0.mk hb6
    cases x with
    | false =>
      go_wp2_with fail
      refine (sackbutlaw02_awake.calls 100 true _ awake_ok).mono ?_
      rintro e w7 ⟨rfl, hb7⟩
      replace hb7 := Aside0.mk hb7
      go_wp2
      go_ret
      exact ⟨rfl, below_step (below_step (below_step (below_step (pw_below_drewN hb2.out _) hb4.out) hb5.out) hb6.out) hb7.out⟩
    | true =>
      cases y with
      | true => cases hxy
      | false =>
        go_wp2_with fail
        refine (sackbutlaw02_awake.calls 100 true _ awake_ok).mono ?_
        rintro e w7 ⟨rfl, hb7⟩
        replace hb7 := Aside0.mk hb7
        go_wp2
        go_ret
        exact ⟨rfl, below_step (below_step (below_step (below_step (pw_below_drewN hb2.out _) hb4.out) hb5.out) hb6.out) hb7.out⟩
  · obtain ⟨k1, f1⟩ := at_first n a true hv hx
    have f2 := at_second n a true hv hy
    obtain ⟨k3, f3⟩ := hB.exists_
    have hP := partner_yes n a h2 hn ha w hT hv
    obtain ⟨b, hb, hl, hb0, hle⟩ := least_some h2 ha ha0 hp
    unfold leastE at hP
    rw [hl, if_neg (by omega)] at hP
    have hbm := (parts_mem h2 ha ha0 b).mp hb
    have hcm := (parts_mem h2 ha ha0 c).mp hc
    obtain ⟨k4, f4⟩ := at_tiles n a b h2 hn ha ha0 hbm.1 hbm.2.1 hbm.2.2
    obtain ⟨k5, f5⟩ := at_tiles n a c h2 hn ha ha0 hcm.1 hcm.2.1 hcm.2.2
    have hbc : (b : Int) ≤ (c : Int) := by have := hle c hc; omega
    replace h1 := Aside0.mk h1
    replace f1 := Aside0.mk f1
    replace f2 := Aside0.mk f2
    replace f3 := Aside0.mk f3
    replace f4 := Aside0.mk f4
    replace f5 := Aside0.mk f5
    replace hP := Aside0.mk hP
    clear hp hx hy hB hv hT hl hbm hcm hle hb hc
    go_enter Tryd.func4, Tryd.ntmps4
    go_wp2_with fail
    refine hP.out.mono ?_
    rintro e w2 ⟨rfl, hb2⟩
    replace hb2 := Aside0.mk hb2
    go_wp2_with fail
    refine (sackbutref02_Rhythm.calls _ _ _ _ h1.out).mono ?_
    rintro e w3 ⟨rfl, hD3⟩
    obtain ⟨m3, rfl⟩ := hD3
    go_wp2_with fail
    refine (canon_First.calls _ _ _ _ _ _ f1.out).mono ?_
    rintro e w4 ⟨rfl, hb4⟩
    replace hb4 := Aside0.mk hb4
    go_wp2_with fail
    refine (canon_Second.calls _ _ _ _ _ f2.out).mono ?_
    rintro e w5 ⟨rfl, hb5⟩
    replace hb5 := Aside0.mk hb5
    go_wp2_with fail
    refine (canon_Build.calls _ _ _ _ _ _ f3.out).mono ?_
    rintro e w6 ⟨rfl, hb6⟩
    replace hb6 := Aside0.mk hb6
    go_wp2_with fail
    refine (canon_Tiles.calls _ _ _ _ _ _ _ f4.out).mono ?_
    rintro e w7 ⟨rfl, hb7⟩
    replace hb7 := Aside0.mk hb7
    go_wp2_with fail
    refine (canon_Tiles.calls _ _ _ _ _ _ _ f5.out).mono ?_
    rintro e w8 ⟨rfl, hb8⟩
    replace hb8 := Aside0.mk hb8
    go_wp2_with fail
    refine (sackbutlaw02_awake.calls 100 true _ awake_ok).mono ?_
    rintro e w9 ⟨rfl, hb9⟩
    replace hb9 := Aside0.mk hb9
    go_wp2
    go_ret
    exact ⟨rfl, below_step (below_step (below_step (below_step (below_step (below_step (pw_below_drewN hb2.out _) hb4.out) hb5.out) hb6.out) hb7.out) hb8.out) hb9.out⟩

theorem cond_calls (n a : Int) (w : World) (hT : Deb w) : Calls Tryd.prog 4 #[.int .i64 n, .int .i64 a] w fun e w' => e = .returned (.bool true) ∧ Below w.heap.size w w' := by
  rcases rhythm_cases n a with ⟨h1, h2⟩ | ⟨h1, h2, m, x, rfl, rfl, h3, h4, h5, h6⟩
  · exact cond_no n a w h1 (valid_no n a h2)
  · exact cond_yes m x h3 h4 h5 h6 w hT h1 (valid_yes m x h3 h4 h2)
end Go.Proofs.YtknlablmkcabkaaDoor.Cw
