/- The walk of the statement RowsCounts. -/
import Derived.Test.YtblfoijalcmfkaaRef
namespace Go.Proofs.Ytblfoijalcmfkaa.Hand
open Go.RowKit Go.Shelf Go.Proofs.YtblfoijalcmfkaaW.PrintWords Go.Proofs.YtblfoijalcmfkaaW.PrintLast Go.Proofs.YtblfoijalcmfkaaW.PrintMore Go.Proofs.YtblfoijalcmfkaaHnd Go.Proofs.Ytblfoijalcmfkaa.PRowsCounts
set_option linter.unusedVariables false
set_option linter.unusedSimpArgs false

theorem awake_calls (w : World) : Calls Try.prog 10 #[] w fun e w' => e = .returned (.bool true) ∧ Below w.heap.size w w' :=
  sackbutlaw05_awake.calls 20 true w (by kernel_rfl)

def rows0 (n : Nat) : Rws := fullR n (n - 1) [0]
theorem rows0_le (n : Nat) (hn : 2 ≤ n) (hn1 : n ≤ 10) : (rows0 n).length ≤ 1000000000 := by
  have := allR_le9 n hn1 hn [] 0 1 0
  rwa [allR_start n hn hn1] at this
theorem count_calls (n : Nat) (hn : 2 ≤ n) (hn1 : n ≤ 10) (w : World) :
    Calls Try.prog 7 #[.int .i64 n] w fun e w' => e = .returned (.tuple #[.int .i64 (rows0 n).length, .int .i64 0]) ∧ Below w.heap.size w w' := by
  have h := Count_calls n hn hn1 w
  have hl := rows0_le n hn hn1
  rw [allR_start n hn hn1] at h
  unfold rows0 at hl ⊢
  rwa [wrap64_id _ (by omega) (by omega)] at h
theorem first0_calls (n : Nat) (hn : 2 ≤ n) (hn1 : n ≤ 10) (w : World) : Calls Try.prog 8 #[.int .i64 n] w (FirstPost (rows0 n) w) := by
  have h := First_calls n hn hn1 w
  rwa [allR_start n hn hn1] at h
theorem list0_calls (n : Nat) (hn : 2 ≤ n) (hn1 : n ≤ 8) (w : World) : Calls Try.prog 9 #[.int .i64 n] w (ListPost (rows0 n) w) := by
  have h := List_calls n hn hn1 w
  rwa [allR_start n hn (by omega)] at h
theorem refcount0_calls (n : Nat) (hn : 2 ≤ n) (hn1 : n ≤ 10) (w : World) :
    Calls Try.prog 12 #[.int .i64 n] w fun e w' => e = .returned (.int .i64 (rows0 n).length) ∧ Below w.heap.size w w' := by
  have h := refCount_calls n hn hn1 w
  rw [whole_count n 0 (by decide) hn1 (n - 1) (by omega), rowsAt_start] at h
  exact h
theorem reflist0_calls (n : Nat) (hn : 2 ≤ n) (hn1 : n ≤ 8) (w : World) :
    Calls Try.prog 15 #[.int .i64 n] w fun e w' => ∃ A c, e = .returned (.slice A (rows0 n).length c) ∧ KdR.C w' A (rows0 n).length (rows0 n) ∧ Below w.heap.size w w' := by
  have h := refList_calls n hn (by omega) w
  rw [whole_rows n 1000 (by decide) (n - 1) [0] [] (by rw [rowsAt_start]; simpa using full8 n hn hn1), rowsAt_start] at h
  exact h
theorem reffill0_calls (n : Nat) (hn : 2 ≤ n) (hn1 : n ≤ 10) (w : World) (g c : Nat) (hc : 1 ≤ c) (hC : Kd.C (Kd.int .i64) w (some ⟨g, 0, none⟩) 1 [0]) (hg : ∃ cs, w.heap[g]? = some (.cells cs 3 (0, 0))) :
    Calls Try.prog 11 #[.slice (some ⟨g, 0, none⟩) 1 c, .int .i64 n] w (FillPost ((rows0 n).take 1) w) := by
  have h := refFill_calls n hn hn1 w g c hc hC hg
  rw [whole_first n (n - 1) [0], rowsAt_start] at h
  exact h
theorem full_len (n : Nat) (k : Nat) : ∀ l, ∀ r ∈ fullR n k l, r.length = l.length + k := by
  induction k with
  | zero => intro l r hr; simp [fullR] at hr; simp [hr]
  | succ k ih =>
    intro l r hr
    rw [fullR] at hr
    obtain ⟨x, _, hx⟩ := List.mem_flatMap.1 hr
    split at hx
    · have := ih _ r hx; simp at this; omega
    · simp at hx

set_option maxHeartbeats 1000000 in
set_option maxRecDepth 100000 in
theorem law_err (n : Int) (h : ¬ (2 ≤ n ∧ n ≤ 10)) (w : World) : Calls Try.prog 3 #[.int .i64 n] w fun e w' => e = .returned (.bool true) ∧ Below w.heap.size w w' := by
  by_cases h2 : n < 2
  · go_enter Try.func3, Try.ntmps3
    go_wp2_with fail
    refine (Count_err n _ h).mono ?_
    rintro e w1 ⟨rfl, rfl⟩
    go_wp2_with fail
    refine (First_err n _ h).mono ?_
    rintro e w1 ⟨rfl, rfl⟩
    go_wp2_with fail
    refine (List_err n _ (by omega)).mono ?_
    rintro e w1 ⟨rfl, rfl⟩
    go_wp2_with fail
    refine (awake_calls _).mono ?_
    rintro e w2 ⟨rfl, hb⟩
    replace hb := Aside0.mk hb
    go_wp2
    go_ret
    exact ⟨rfl, hb.out⟩
  · have h3 : (10 : Int) < n := by omega
    go_enter Try.func3, Try.ntmps3
    go_wp2_with fail
    refine (Count_err n _ h).mono ?_
    rintro e w1 ⟨rfl, rfl⟩
    go_wp2_with fail
    refine (First_err n _ h).mono ?_
    rintro e w1 ⟨rfl, rfl⟩
    go_wp2_with fail
    refine (List_err n _ (by omega)).mono ?_
    rintro e w1 ⟨rfl, rfl⟩
    go_wp2_with fail
    refine (awake_calls _).mono ?_
    rintro e w2 ⟨rfl, hb⟩
    replace hb := Aside0.mk hb
    go_wp2
    go_ret
    exact ⟨rfl, hb.out⟩



theorem bel2 {w a b : World} (h : Below w.heap.size w a) (k : Below a.heap.size a b) : Below w.heap.size w b := h.trans (k.mono h.size)

set_option maxHeartbeats 2000000 in
set_option maxRecDepth 100000 in
theorem law_big (n : Nat) (h2 : 9 ≤ n) (h3 : n ≤ 10) (w : World) : Calls Try.prog 3 #[.int .i64 n] w fun e w' => e = .returned (.bool true) ∧ Below w.heap.size w w' := by
  have hl2 : ¬ (n : Int) < 2 := by omega
  have hl10 : ¬ (10 : Int) < (n : Int) := by omega
  have hl8 : (8 : Int) < (n : Int) := by omega
  obtain ⟨L, hL⟩ : ∃ L : Int, ((rows0 n).length : Int) = L := ⟨_, rfl⟩
  have HC := fun w => count_calls n (by omega) (by omega) w
  have HRC := fun w => refcount0_calls n (by omega) (by omega) w
  have HF := fun w => first0_calls n (by omega) (by omega) w
  have HRF := fun w g c hc hC hg => reffill0_calls n (by omega) (by omega) w g c hc hC hg
  have HLen := full_len n (n - 1) [0]
  rw [show fullR n (n - 1) [0] = rows0 n from rfl] at HLen
  rw [hL] at HC HRC
  obtain ⟨R, hR⟩ : ∃ R, rows0 n = R := ⟨_, rfl⟩
  rw [hR] at HF HRF HLen
  clear hL hR
  replace HC := Aside0.mk HC
  replace HRC := Aside0.mk HRC
  replace HF := Aside0.mk HF
  replace HRF := Aside0.mk HRF
  replace HLen := Aside0.mk HLen
  have hneL : (L != L) = false := by simp
  go_enter Try.func3, Try.ntmps3
  go_wp2_with fail
  refine (HC.out _).mono ?_
  rintro e w1 ⟨rfl, hb1⟩
  replace hb1 := Aside0.mk hb1
  go_wp2_with fail
  refine (HF.out _).mono ?_
  rintro e w2 (⟨hR, rfl, hb2⟩ | ⟨l, r, v, hR, rfl, hv, hb2⟩)
  · replace hb2 := Aside0.mk hb2
    replace hR := Aside0.mk hR
    go_wp2_with fail
    refine (List_err n _ (by omega)).mono ?_
    rintro e w3 ⟨rfl, hb3⟩
    obtain rfl := hb3
    have hb23 : Aside0 (Below w3.heap.size w3 w3) := ⟨Below.refl _ _⟩
    go_wp2_with fail
    refine (HRF.out _ _ _ (Nat.le_refl _) (by exact one_row w3 0) ⟨_, blk_new w3 _⟩).mono ?_
    rintro e w4 (⟨hR4, rfl, hb4⟩ | ⟨l4, r4, A4, c4, hR4, rfl, hc4, hC4, hb4⟩)
    · clear hR4
      replace hb4 := Aside0.mk hb4
      go_wp2_with fail
      refine (HRC.out _).mono ?_
      rintro e w5 ⟨rfl, hb5⟩
      replace hb5 := Aside0.mk hb5
      go_wp2_with fail
      refine (equal_calls [] [] none none 0 0 _ (Kd.C_nil _ _) (Nat.le_refl _) (Kd.C_nil _ _) (Nat.le_refl _) (by decide)).mono ?_
      rintro e w6 ⟨rfl, hd6⟩
      obtain ⟨m6, rfl⟩ := hd6
      go_wp2_with fail
      refine (awake_calls _).mono ?_
      rintro e w7 ⟨rfl, hb7⟩
      replace hb7 := Aside0.mk hb7
      go_wp2
      go_ret
      exact ⟨rfl, bel2 hb1.out (bel2 hb2.out (bel2 ((Below.refl _ _).alloc (Nat.le_refl _) _) (bel2 hb4.out (bel2 hb5.out (bel2 (pw_below_drewN (Below.refl _ _) _) hb7.out)))))⟩
    · rw [hR.out] at hR4; simp at hR4
  · replace hb2 := Aside0.mk hb2
    obtain ⟨Av, cv, rfl, hcv, hCv⟩ := Kd.R_reads hv
    replace hCv := Aside0.mk hCv
    clear hv
    have hll := HLen.out l (by rw [hR]; simp)
    have hlm : l.length ≤ 1000000 := by simp at hll; omega
    clear hll
    replace hR := Aside0.mk hR
    go_wp2_with fail
    refine (List_err n _ (by omega)).mono ?_
    rintro e w3 ⟨rfl, hb3⟩
    obtain rfl := hb3
    have hb23 : Aside0 (Below w3.heap.size w3 w3) := ⟨Below.refl _ _⟩
    go_wp2_with fail
    refine (HRF.out _ _ _ (Nat.le_refl _) (by exact one_row w3 0) ⟨_, blk_new w3 _⟩).mono ?_
    rintro e w4 (⟨hR4, rfl, hb4⟩ | ⟨l4, r4, A4, c4, hR4, rfl, hc4, hC4, hb4⟩)
    · rw [hR.out] at hR4; simp at hR4
    · rw [hR.out] at hR4
      simp at hR4
      obtain ⟨rfl, rfl⟩ := hR4
      replace hb4 := Aside0.mk hb4
      replace hC4 := Aside0.mk hC4
      go_wp2_with fail
      refine (HRC.out _).mono ?_
      rintro e w5 ⟨rfl, hb5⟩
      replace hb5 := Aside0.mk hb5
      go_wp2_with fail
      refine (equal_calls l l Av A4 cv c4 _ (Kd.C_below (Kd.C_below (Kd.C_alloc hCv.out _) hb4.out) hb5.out) hcv (Kd.C_below hC4.out hb5.out) hc4 hlm).mono ?_
      have hdl : decide (l = l) = true := by simp
      rw [hdl]
      clear hdl
      rintro e w6 ⟨rfl, hd6⟩
      obtain ⟨m6, rfl⟩ := hd6
      go_wp2_with fail
      refine (awake_calls _).mono ?_
      rintro e w7 ⟨rfl, hb7⟩
      replace hb7 := Aside0.mk hb7
      go_wp2
      go_ret
      exact ⟨rfl, bel2 hb1.out (bel2 hb2.out (bel2 ((Below.refl _ _).alloc (Nat.le_refl _) _) (bel2 hb4.out (bel2 hb5.out (bel2 (pw_below_drewN (Below.refl _ _) _) hb7.out)))))⟩

set_option maxHeartbeats 2000000 in
set_option maxRecDepth 100000 in
theorem law_small (n : Nat) (h2 : 2 ≤ n) (h3 : n ≤ 8) (w : World) : Calls Try.prog 3 #[.int .i64 n] w fun e w' => e = .returned (.bool true) ∧ Below w.heap.size w w' := by
  have hl2 : ¬ (n : Int) < 2 := by omega
  have hl10 : ¬ (10 : Int) < (n : Int) := by omega
  have hl8 : ¬ (8 : Int) < (n : Int) := by omega
  obtain ⟨L, hL⟩ : ∃ L : Int, ((rows0 n).length : Int) = L := ⟨_, rfl⟩
  have HC := fun w => count_calls n (by omega) (by omega) w
  have HRC := fun w => refcount0_calls n (by omega) (by omega) w
  have HF := fun w => first0_calls n (by omega) (by omega) w
  have HRF := fun w g c hc hC hg => reffill0_calls n (by omega) (by omega) w g c hc hC hg
  have HLs := fun w => list0_calls n h2 h3 w
  have HRL := fun w => reflist0_calls n h2 h3 w
  have HLen := full_len n (n - 1) [0]
  rw [show fullR n (n - 1) [0] = rows0 n from rfl] at HLen
  rw [hL] at HC HRC
  obtain ⟨R, hR⟩ : ∃ R, rows0 n = R := ⟨_, rfl⟩
  rw [hR] at HF HRF HLen HLs HRL
  clear hL hR
  replace HC := Aside0.mk HC
  replace HRC := Aside0.mk HRC
  replace HF := Aside0.mk HF
  replace HRF := Aside0.mk HRF
  replace HLen := Aside0.mk HLen
  replace HLs := Aside0.mk HLs
  replace HRL := Aside0.mk HRL
  have hneL : (L != L) = false := by simp
  go_enter Try.func3, Try.ntmps3
  go_wp2_with fail
  refine (HC.out _).mono ?_
  rintro e w1 ⟨rfl, hb1⟩
  replace hb1 := Aside0.mk hb1
  go_wp2_with fail
  refine (HF.out _).mono ?_
  rintro e w2 (⟨hR, rfl, hb2⟩ | ⟨l, r, v, hR, rfl, hv, hb2⟩)
  · replace hb2 := Aside0.mk hb2
    replace hR := Aside0.mk hR
    go_wp2_with fail
    refine (HLs.out _).mono ?_
    rintro e w3 ⟨vl, rfl, hvl, hb3⟩
    obtain ⟨Al, cl, rfl, hcl, hCl⟩ := Kd.R_reads hvl
    replace hCl := Aside0.mk hCl
    replace hb3 := Aside0.mk hb3
    clear hvl
    go_wp2_with fail
    refine (HRF.out _ _ _ (Nat.le_refl _) (by exact one_row w3 0) ⟨_, blk_new w3 _⟩).mono ?_
    rintro e w4 (⟨hR4, rfl, hb4⟩ | ⟨l4, r4, A4, c4, hR4, rfl, hc4, hC4, hb4⟩)
    · clear hR4
      replace hb4 := Aside0.mk hb4
      go_wp2_with fail
      refine (HRC.out _).mono ?_
      rintro e w5 ⟨rfl, hb5⟩
      replace hb5 := Aside0.mk hb5
      go_wp2_with fail
      refine (equal_calls [] [] none none 0 0 _ (Kd.C_nil _ _) (Nat.le_refl _) (Kd.C_nil _ _) (Nat.le_refl _) (by decide)).mono ?_
      rintro e w6 ⟨rfl, hd6⟩
      obtain ⟨m6, rfl⟩ := hd6
      go_wp2_with fail
      refine (awake_calls _).mono ?_
      rintro e w7 ⟨rfl, hb7⟩
      replace hb7 := Aside0.mk hb7
      go_wp2_with fail
      refine (HRL.out _).mono ?_
      rintro e w8 ⟨A8, c8, rfl, hC8, hb8⟩
      replace hC8 := Aside0.mk hC8
      replace hb8 := Aside0.mk hb8
      go_wp2_with fail
      refine (eqf_calls R R Al A8 cl c8 _ (Kd.C_below (Kd.C_below (Kd.C_drewN (Kd.C_below (Kd.C_below (Kd.C_alloc hCl.out _) hb4.out) hb5.out) m6) hb7.out) hb8.out) hC8.out (fun x hx => by have := HLen.out x hx; simp at this; omega)).mono ?_
      have hdR : decide (R = R) = true := by simp
      rw [hdR]
      clear hdR
      rintro e w9 ⟨rfl, hd9⟩
      obtain ⟨m9, rfl⟩ := hd9
      go_wp2
      go_ret
      exact ⟨rfl, bel2 hb1.out (bel2 hb2.out (bel2 hb3.out (bel2 ((Below.refl _ _).alloc (Nat.le_refl _) _) (bel2 hb4.out (bel2 hb5.out (bel2 (pw_below_drewN (Below.refl _ _) _) (bel2 hb7.out (bel2 hb8.out (pw_below_drewN (Below.refl _ _) _)))))))))⟩
    · rw [hR.out] at hR4; simp at hR4
  · replace hb2 := Aside0.mk hb2
    obtain ⟨Av, cv, rfl, hcv, hCv⟩ := Kd.R_reads hv
    replace hCv := Aside0.mk hCv
    clear hv
    have hll := HLen.out l (by rw [hR]; simp)
    have hlm : l.length ≤ 1000000 := by simp at hll; omega
    clear hll
    replace hR := Aside0.mk hR
    go_wp2_with fail
    refine (HLs.out _).mono ?_
    rintro e w3 ⟨vl, rfl, hvl, hb3⟩
    obtain ⟨Al, cl, rfl, hcl, hCl⟩ := Kd.R_reads hvl
    replace hCl := Aside0.mk hCl
    replace hb3 := Aside0.mk hb3
    clear hvl
    go_wp2_with fail
    refine (HRF.out _ _ _ (Nat.le_refl _) (by exact one_row w3 0) ⟨_, blk_new w3 _⟩).mono ?_
    rintro e w4 (⟨hR4, rfl, hb4⟩ | ⟨l4, r4, A4, c4, hR4, rfl, hc4, hC4, hb4⟩)
    · rw [hR.out] at hR4; simp at hR4
    · rw [hR.out] at hR4
      simp at hR4
      obtain ⟨rfl, rfl⟩ := hR4
      replace hb4 := Aside0.mk hb4
      replace hC4 := Aside0.mk hC4
      go_wp2_with fail
      refine (HRC.out _).mono ?_
      rintro e w5 ⟨rfl, hb5⟩
      replace hb5 := Aside0.mk hb5
      go_wp2_with fail
      refine (equal_calls l l Av A4 cv c4 _ (Kd.C_below (Kd.C_below (Kd.C_alloc (Kd.C_below hCv.out hb3.out) _) hb4.out) hb5.out) hcv (Kd.C_below hC4.out hb5.out) hc4 hlm).mono ?_
      have hdl : decide (l = l) = true := by simp
      rw [hdl]
      clear hdl
      rintro e w6 ⟨rfl, hd6⟩
      obtain ⟨m6, rfl⟩ := hd6
      go_wp2_with fail
      refine (awake_calls _).mono ?_
      rintro e w7 ⟨rfl, hb7⟩
      replace hb7 := Aside0.mk hb7
      go_wp2_with fail
      refine (HRL.out _).mono ?_
      rintro e w8 ⟨A8, c8, rfl, hC8, hb8⟩
      replace hC8 := Aside0.mk hC8
      replace hb8 := Aside0.mk hb8
      go_wp2_with fail
      refine (eqf_calls R R Al A8 cl c8 _ (Kd.C_below (Kd.C_below (Kd.C_drewN (Kd.C_below (Kd.C_below (Kd.C_alloc hCl.out _) hb4.out) hb5.out) m6) hb7.out) hb8.out) hC8.out (fun x hx => by have := HLen.out x hx; simp at this; omega)).mono ?_
      have hdR : decide (R = R) = true := by simp
      rw [hdR]
      clear hdR
      rintro e w9 ⟨rfl, hd9⟩
      obtain ⟨m9, rfl⟩ := hd9
      go_wp2
      go_ret
      exact ⟨rfl, bel2 hb1.out (bel2 hb2.out (bel2 hb3.out (bel2 ((Below.refl _ _).alloc (Nat.le_refl _) _) (bel2 hb4.out (bel2 hb5.out (bel2 (pw_below_drewN (Below.refl _ _) _) (bel2 hb7.out (bel2 hb8.out (pw_below_drewN (Below.refl _ _) _)))))))))⟩

theorem law_walk (n : Int) (w : World) : Calls Try.prog 3 #[.int .i64 n] w fun e w' => e = .returned (.bool true) ∧ Below w.heap.size w w' := by
  by_cases h : 2 ≤ n ∧ n ≤ 10
  · obtain ⟨m, rfl⟩ := Int.eq_ofNat_of_zero_le (show 0 ≤ n by omega)
    by_cases h8 : m ≤ 8
    · exact law_small m (by omega) h8 w
    · exact law_big m (by omega) (by omega) w
  · exact law_err n h w

end Go.Proofs.Ytblfoijalcmfkaa.Hand
