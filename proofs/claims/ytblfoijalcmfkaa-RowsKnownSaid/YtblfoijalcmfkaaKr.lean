/- The walk of the statement RowsKnown. -/
import Derived.Test.YtblfoijalcmfkaaKn
namespace Go.Proofs.Ytblfoijalcmfkaa.Hand
open Go.RowKit Go.Shelf Go.Proofs.YtblfoijalcmfkaaW.PrintWords Go.Proofs.YtblfoijalcmfkaaW.PrintLast Go.Proofs.YtblfoijalcmfkaaW.PrintMore Go.Proofs.YtblfoijalcmfkaaHnd Go.Proofs.Ytblfoijalcmfkaa.PRowsCounts
set_option linter.unusedVariables false
set_option linter.unusedSimpArgs false

abbrev tabV : Value := .agg #[.int .i64 0, .int .i64 0, .int .i64 1, .int .i64 0, .int .i64 2, .int .i64 0, .int .i64 4, .int .i64 0, .int .i64 24, .int .i64 0, .int .i64 288]
theorem tab_2 (w : World) : (Instr.index 38 tabV (.int .i64 ((2 : Nat) : Int))).run Try.prog w = .ok (.int .i64 ((known 2 : Nat) : Int)) w := by kernel_rfl
theorem tab_3 (w : World) : (Instr.index 38 tabV (.int .i64 ((3 : Nat) : Int))).run Try.prog w = .ok (.int .i64 ((known 3 : Nat) : Int)) w := by kernel_rfl
theorem tab_4 (w : World) : (Instr.index 38 tabV (.int .i64 ((4 : Nat) : Int))).run Try.prog w = .ok (.int .i64 ((known 4 : Nat) : Int)) w := by kernel_rfl
theorem tab_5 (w : World) : (Instr.index 38 tabV (.int .i64 ((5 : Nat) : Int))).run Try.prog w = .ok (.int .i64 ((known 5 : Nat) : Int)) w := by kernel_rfl
theorem tab_6 (w : World) : (Instr.index 38 tabV (.int .i64 ((6 : Nat) : Int))).run Try.prog w = .ok (.int .i64 ((known 6 : Nat) : Int)) w := by kernel_rfl
theorem tab_7 (w : World) : (Instr.index 38 tabV (.int .i64 ((7 : Nat) : Int))).run Try.prog w = .ok (.int .i64 ((known 7 : Nat) : Int)) w := by kernel_rfl
theorem tab_8 (w : World) : (Instr.index 38 tabV (.int .i64 ((8 : Nat) : Int))).run Try.prog w = .ok (.int .i64 ((known 8 : Nat) : Int)) w := by kernel_rfl
theorem tab_9 (w : World) : (Instr.index 38 tabV (.int .i64 ((9 : Nat) : Int))).run Try.prog w = .ok (.int .i64 ((known 9 : Nat) : Int)) w := by kernel_rfl
theorem tab_10 (w : World) : (Instr.index 38 tabV (.int .i64 ((10 : Nat) : Int))).run Try.prog w = .ok (.int .i64 ((known 10 : Nat) : Int)) w := by kernel_rfl
theorem tab_at (n : Nat) (hn : 2 ≤ n) (hn1 : n ≤ 10) (w : World) : (Instr.index 38 tabV (.int .i64 (n : Int))).run Try.prog w = .ok (.int .i64 (known n : Int)) w := by
  have hc : n = 2 ∨ n = 3 ∨ n = 4 ∨ n = 5 ∨ n = 6 ∨ n = 7 ∨ n = 8 ∨ n = 9 ∨ n = 10 := by omega
  rcases hc with rfl | rfl | rfl | rfl | rfl | rfl | rfl | rfl | rfl
  · exact tab_2 w
  · exact tab_3 w
  · exact tab_4 w
  · exact tab_5 w
  · exact tab_6 w
  · exact tab_7 w
  · exact tab_8 w
  · exact tab_9 w
  · exact tab_10 w

set_option maxHeartbeats 2000000 in
set_option maxRecDepth 100000 in
theorem known_big (m : Nat) (h2 : 9 ≤ m) (h3 : m ≤ 10) (w : World) : Calls Try.prog 4 #[.int .i64 m] w fun e w' => e = .returned (.bool true) ∧ Below w.heap.size w w' := by
  have hl2 : ¬ (m : Int) < 2 := by omega
  have hl10 : ¬ (10 : Int) < (m : Int) := by omega
  have hl8 : (8 : Int) < (m : Int) := by omega
  have hT : ∀ w, (Instr.index 38 tabV (.int .i64 (m : Int))).run Try.prog w = .ok (.int .i64 (known m : Int)) w := fun w => tab_at m (by omega) h3 w
  have HC := fun w => count_calls m (by omega) h3 w
  have HF := fun w => first0_calls m (by omega) h3 w
  rw [known_ok m (by omega) h3] at HC
  have hKl : ((known m : Nat) : Int) = ((rows0 m).length : Int) := by rw [known_ok m (by omega) h3]
  obtain ⟨R, hR⟩ : ∃ R, rows0 m = R := ⟨_, rfl⟩
  rw [hR] at HF hKl
  obtain ⟨L, hL⟩ : ∃ L : Int, ((known m : Nat) : Int) = L := ⟨_, rfl⟩
  rw [hL] at hKl
  simp only [hL] at HC hT
  clear hL hR
  have HKl := Aside0.mk hKl
  replace HC := Aside0.mk HC
  replace HF := Aside0.mk HF
  have hneL : (L != L) = false := by simp
  clear hKl
  go_enter Try.func4, Try.ntmps4
  go_wp2_with fail
  refine (HC.out _).mono ?_
  rintro e w1 ⟨rfl, hb1⟩
  replace hb1 := Aside0.mk hb1
  go_wp2_with fail
  refine (HF.out _).mono ?_
  rintro e w2 (⟨hR, rfl, hb2⟩ | ⟨l, r, v, hR, rfl, hv, hb2⟩)
  · have hL0 : ¬ (0 : Int) < L := by rw [HKl.out, hR]; simp
    replace hb2 := Aside0.mk hb2
    replace hR := Aside0.mk hR
    go_wp2_with fail
    refine (List_err m _ (by omega)).mono ?_
    rintro e w3 ⟨rfl, hb3⟩
    obtain rfl := hb3
    go_wp2_with fail
    refine (awake_calls _).mono ?_
    rintro e w7 ⟨rfl, hb7⟩
    replace hb7 := Aside0.mk hb7
    go_wp2
    go_ret
    exact ⟨rfl, bel2 hb1.out (bel2 hb2.out hb7.out)⟩
  · have hL0 : (0 : Int) < L := by rw [HKl.out, hR]; simp
    obtain ⟨Av, cv, rfl, hcv, hCv⟩ := Kd.R_reads hv
    clear hCv hv
    replace hb2 := Aside0.mk hb2
    replace hR := Aside0.mk hR
    go_wp2_with fail
    refine (List_err m _ (by omega)).mono ?_
    rintro e w3 ⟨rfl, hb3⟩
    obtain rfl := hb3
    go_wp2_with fail
    refine (awake_calls _).mono ?_
    rintro e w7 ⟨rfl, hb7⟩
    replace hb7 := Aside0.mk hb7
    go_wp2
    go_ret
    exact ⟨rfl, bel2 hb1.out (bel2 hb2.out hb7.out)⟩

theorem equal_same (a : List Int) (A B : Option Addr) (c d : Nat) (w : World) (ha : Kd.C (Kd.int .i64) w A a.length a) (hc : a.length ≤ c) (hb : Kd.C (Kd.int .i64) w B a.length a) (hd : a.length ≤ d) (hl : a.length ≤ 1000000) :
    Calls Try.prog 13 #[.slice A a.length c, .slice B a.length d] w fun e w' => e = .returned (.bool true) ∧ Drawn0 w w' :=
  (equal_calls a a A B c d w ha hc hb hd hl).mono fun _ _ h => ⟨by simpa using h.1, h.2⟩

set_option maxHeartbeats 4000000 in
set_option maxRecDepth 100000 in
theorem known_small (m : Nat) (h2 : 2 ≤ m) (h3 : m ≤ 8) (w : World) : Calls Try.prog 4 #[.int .i64 m] w fun e w' => e = .returned (.bool true) ∧ Below w.heap.size w w' := by
  have hl2 : ¬ (m : Int) < 2 := by omega
  have hl10 : ¬ (10 : Int) < (m : Int) := by omega
  have hl8 : ¬ (8 : Int) < (m : Int) := by omega
  have hT : ∀ w, (Instr.index 38 tabV (.int .i64 (m : Int))).run Try.prog w = .ok (.int .i64 (known m : Int)) w := fun w => tab_at m (by omega) (by omega) w
  have HC := fun w => count_calls m (by omega) (by omega) w
  have HF := fun w => first0_calls m (by omega) (by omega) w
  have HLs := fun w => list0_calls m h2 h3 w
  have HOk := rowsB_at (rows0 m) none (rowsB_ok m h2 h3)
  have HLen := full_len m (m - 1) [0]
  have hRle := rows0_le m h2 (by omega)
  rw [show fullR m (m - 1) [0] = rows0 m from rfl] at HLen
  rw [known_ok m (by omega) (by omega)] at HC
  have hKl : ((known m : Nat) : Int) = ((rows0 m).length : Int) := by rw [known_ok m (by omega) (by omega)]
  obtain ⟨R, hR⟩ : ∃ R, rows0 m = R := ⟨_, rfl⟩
  rw [hR] at HF hKl HLs HOk HLen hRle
  obtain ⟨L, hL⟩ : ∃ L : Int, ((known m : Nat) : Int) = L := ⟨_, rfl⟩
  rw [hL] at hKl
  simp only [hL] at HC hT
  clear hL hR
  have HKl := Aside0.mk hKl
  replace HC := Aside0.mk HC
  replace HF := Aside0.mk HF
  replace HLs := Aside0.mk HLs
  replace HOk := Aside0.mk HOk
  replace HLen := Aside0.mk HLen
  have hneL : (L != L) = false := by simp
  have hneR : ((R.length : Int) != L) = false := by rw [hKl]; simp
  clear hKl
  go_enter Try.func4, Try.ntmps4
  go_wp2_with fail
  refine (HC.out _).mono ?_
  rintro e w1 ⟨rfl, hb1⟩
  replace hb1 := Aside0.mk hb1
  go_wp2_with fail
  refine (HF.out _).mono ?_
  rintro e w2 (⟨hR, rfl, hb2⟩ | ⟨l, r, v, hR, rfl, hv, hb2⟩)
  · have hL0 : ¬ (0 : Int) < L := by rw [HKl.out, hR]; simp
    replace hb2 := Aside0.mk hb2
    replace hR := Aside0.mk hR
    go_wp2_with fail
    refine (HLs.out _).mono ?_
    rintro e w3 ⟨vl, rfl, hvl, hb3⟩
    obtain ⟨Al, cl, rfl, hcl, hCl⟩ := Kd.R_reads hvl
    have HBS := Aside0.mk (bel2 hb1.out (bel2 hb2.out hb3))
    have HCS := Aside0.mk hCl
    clear hvl hCl hb3
    go_wp2
    go_loopw [88] (fun v wr => ∃ i : Nat, i ≤ R.length ∧ v = .int .i64 i ∧ Aside0 (Below w.heap.size w wr) ∧ Aside0 (KdR.C wr Al R.length R)) (fun v _ => R.length - (intOf v).toNat)
    case atStart => exact ⟨0, Nat.zero_le _, rfl, HBS, HCS⟩
    case round =>
      obtain ⟨i, hi, rfl, HBw, HCR⟩ := hrel
      by_cases hin : i < R.length
      · obtain ⟨hok, hcmp⟩ := HOk.out i hin
        obtain ⟨ad, A', c', hAl, hcell, hle, hC⟩ := row_at HCR.out i hin
        subst hAl
        have hin3 : (i : Int) < (R.length : Int) := by omega
        have HC1 := Aside0.mk hC
        have hcmp' := Aside0.mk hcmp
        obtain ⟨x, hx⟩ : ∃ x, R.getD i [] = x := ⟨_, rfl⟩
        rw [hx] at hok hcell hle HC1 hcmp'
        clear hx hC hcmp
        have hRow := Aside0.mk (PRowsKnown.sackbutref05_Row.calls 20 A' c' x true wr HC1.out hle hok.row)
        have hEv := Aside0.mk (fun w2 hr2 => sackbutref05_Every.calls 20 A' c' x m true w2 hr2 hle hok.every)
        have hOk := Aside0.mk hok
        have hxm : ((x.length : Int) != (m : Int)) = false := by rw [hok.len]; simp
        have hxm2 : (x.length != m) = false := by rw [hok.len]; simp
        clear hok
        go_wp2_with fail
        refine hRow.out.mono ?_
        clear hRow
        rintro e w4 ⟨rfl, hd4⟩
        obtain ⟨m4, rfl⟩ := hd4
        go_wp2_with fail
        refine (hEv.out _ (Kd.C_drewN HC1.out _)).mono ?_
        clear hEv
        rintro e w5 ⟨rfl, hb5⟩
        have hb5' : Below wr.heap.size wr w5 := (pw_below_drewN (Below.refl _ _) m4).trans (hb5.mono (Nat.le_refl _))
        have HC5 := Aside0.mk (Kd.C_below HC1.out hb5')
        have HCR5 := Aside0.mk (Kd.C_below HCR.out hb5')
        have hb6 := Aside0.mk (bel2 HBw.out hb5')
        clear hb5 hb5'
        obtain ⟨xd, hxd, hx0⟩ := Kd.at_int HC5.out 0 (by omega) (by have := hOk.out.len; omega)
        subst hxd
        obtain ⟨xd', hxd', hx1⟩ := Kd.at_int HC5.out ((m : Int) - 1) (by omega) (by have := hOk.out.len; omega)
        cases hxd'
        have hm1 : ((m : Int) - 1).toNat = m - 1 := by omega
        rw [hm1] at hx1
        rw [hOk.out.head] at hx0
        rw [show ((0 : Int)).toNat = 0 from rfl, add_zero_addr] at hx0
        obtain ⟨la, hla⟩ : ∃ la, rd x ((m : Int) - 1) = la := ⟨_, rfl⟩
        have hla2 : 2 * la = (m : Int) := by rw [← hla]; exact hOk.out.last
        rw [hla] at hx1
        clear hla
        have hxl0 : (0 : Int) < (x.length : Int) := by have := hOk.out.len; omega
        have hxl1 : ((m : Int) - 1) < (x.length : Int) := by have := hOk.out.len; omega
        have hxl2 : 0 ≤ ((m : Int) - 1) := by omega
        have hla3 : (2 * la != (m : Int)) = false := by rw [hla2]; simp
        have hla4 : 0 ≤ la ∧ la ≤ 10 := by omega
        obtain ⟨hla5, hla6⟩ := hla4
        clear hla2
        by_cases hi0 : i = 0
        · subst hi0
          go_wp2
          go_roundw
          case measure => simp [intOf]; omega
          case rel => exact ⟨1, by omega, by go_num, hb6, HCR5⟩
        · have hip : (0 : Int) < (i : Int) := by omega
          obtain ⟨ad2, A2, c2, hA2, hcell2, hle2, hC2⟩ := row_at HCR5.out (i - 1) (by omega)
          cases hA2
          have hi1 : ((i : Int) - 1).toNat = i - 1 := by omega
          have hi2 : 0 ≤ (i : Int) - 1 := by omega
          have hi4 : (i : Int) ≤ 1000000000 := by omega
          have hi3 : (i : Int) - 1 < (R.length : Int) := by omega
          obtain ⟨y, hy⟩ : ∃ y, R.getD (i - 1) [] = y := ⟨_, rfl⟩
          have hcmp2 := hcmp'.out (by omega)
          rw [hy] at hcmp2 hcell2 hle2 hC2
          have hCmp := Aside0.mk (PRowsKnown.slices_Compare_int_int.calls 20 A2 c2 y (some xd) c' x (-1) w5 hC2 hle2 HC5.out hle hcmp2)
          clear hy hcmp2 hC2
          go_wp2_with fail
          refine hCmp.out.mono ?_
          clear hCmp
          rintro e w7 ⟨rfl, hd7⟩
          obtain ⟨m7, rfl⟩ := hd7
          go_wp2
          go_roundw
          case measure => simp [intOf]; omega
          case rel => exact ⟨i + 1, by omega, by go_num, ⟨pw_below_drewN hb6.out _⟩, ⟨Kd.C_drewN HCR5.out _⟩⟩
      · obtain rfl : i = R.length := by omega
        go_wp2_with fail
        refine (awake_calls _).mono ?_
        rintro e w7 ⟨rfl, hb7⟩
        replace hb7 := Aside0.mk hb7
        go_wp2
        go_ret
        exact ⟨rfl, bel2 HBw.out hb7.out⟩

  · have hL0 : (0 : Int) < L := by rw [HKl.out, hR]; simp
    have hll := HLen.out l (by rw [hR]; simp)
    have hlm : l.length ≤ 1000000 := by simp at hll; omega
    have hRp : 0 < R.length := by rw [hR]; simp
    have hR0 := Aside0.mk (show R.getD 0 [] = l by rw [hR]; rfl)
    clear hll
    obtain ⟨Av, cv, rfl, hcv, hCv⟩ := Kd.R_reads hv
    replace hCv := Aside0.mk hCv
    clear hv hR
    replace hb2 := Aside0.mk hb2
    go_wp2_with fail
    refine (HLs.out _).mono ?_
    rintro e w3 ⟨vl, rfl, hvl, hb3⟩
    obtain ⟨Al, cl, rfl, hcl, hCl⟩ := Kd.R_reads hvl
    have HBS0 := Aside0.mk (bel2 hb1.out (bel2 hb2.out hb3))
    have HCS0 := Aside0.mk hCl
    have HCv3 := Aside0.mk (Kd.C_below hCv.out hb3)
    obtain ⟨ad0, A0, c0, hA0, hcell0, hle0, hC0⟩ := row_at hCl 0 hRp
    cases hA0
    rw [hR0.out] at hcell0 hle0 hC0
    rw [add_zero_addr] at hcell0
    have hRp2 : (0 : Int) < (R.length : Int) := by omega
    have HEq := Aside0.mk (equal_same l A0 Av c0 cv w3 hC0 hle0 HCv3.out hcv hlm)
    clear hvl hCl hb3 hC0
    go_wp2_with fail
    refine HEq.out.mono ?_
    clear HEq
    rintro e w6 ⟨rfl, hd6⟩
    obtain ⟨m6, rfl⟩ := hd6
    obtain ⟨Al, hAl0⟩ : ∃ Al, (some ad0 : Option Addr) = Al := ⟨_, rfl⟩
    have HBS := Aside0.mk (pw_below_drewN HBS0.out m6)
    have HCS : Aside0 (KdR.C (w3.drewN m6) Al R.length R) := ⟨by rw [← hAl0]; exact Kd.C_drewN HCS0.out m6⟩
    clear HBS0 HCS0
    go_wp2
    clear hAl0
    go_loopw [88] (fun v wr => ∃ i : Nat, i ≤ R.length ∧ v = .int .i64 i ∧ Aside0 (Below w.heap.size w wr) ∧ Aside0 (KdR.C wr Al R.length R)) (fun v _ => R.length - (intOf v).toNat)
    case atStart => exact ⟨0, Nat.zero_le _, rfl, HBS, HCS⟩
    case round =>
      obtain ⟨i, hi, rfl, HBw, HCR⟩ := hrel
      by_cases hin : i < R.length
      · obtain ⟨hok, hcmp⟩ := HOk.out i hin
        obtain ⟨ad, A', c', hAl, hcell, hle, hC⟩ := row_at HCR.out i hin
        subst hAl
        have hin3 : (i : Int) < (R.length : Int) := by omega
        have HC1 := Aside0.mk hC
        have hcmp' := Aside0.mk hcmp
        obtain ⟨x, hx⟩ : ∃ x, R.getD i [] = x := ⟨_, rfl⟩
        rw [hx] at hok hcell hle HC1 hcmp'
        clear hx hC hcmp
        have hRow := Aside0.mk (PRowsKnown.sackbutref05_Row.calls 20 A' c' x true wr HC1.out hle hok.row)
        have hEv := Aside0.mk (fun w2 hr2 => sackbutref05_Every.calls 20 A' c' x m true w2 hr2 hle hok.every)
        have hOk := Aside0.mk hok
        have hxm : ((x.length : Int) != (m : Int)) = false := by rw [hok.len]; simp
        have hxm2 : (x.length != m) = false := by rw [hok.len]; simp
        clear hok
        go_wp2_with fail
        refine hRow.out.mono ?_
        clear hRow
        rintro e w4 ⟨rfl, hd4⟩
        obtain ⟨m4, rfl⟩ := hd4
        go_wp2_with fail
        refine (hEv.out _ (Kd.C_drewN HC1.out _)).mono ?_
        clear hEv
        rintro e w5 ⟨rfl, hb5⟩
        have hb5' : Below wr.heap.size wr w5 := (pw_below_drewN (Below.refl _ _) m4).trans (hb5.mono (Nat.le_refl _))
        have HC5 := Aside0.mk (Kd.C_below HC1.out hb5')
        have HCR5 := Aside0.mk (Kd.C_below HCR.out hb5')
        have hb6 := Aside0.mk (bel2 HBw.out hb5')
        clear hb5 hb5'
        obtain ⟨xd, hxd, hx0⟩ := Kd.at_int HC5.out 0 (by omega) (by have := hOk.out.len; omega)
        subst hxd
        obtain ⟨xd', hxd', hx1⟩ := Kd.at_int HC5.out ((m : Int) - 1) (by omega) (by have := hOk.out.len; omega)
        cases hxd'
        have hm1 : ((m : Int) - 1).toNat = m - 1 := by omega
        rw [hm1] at hx1
        rw [hOk.out.head] at hx0
        rw [show ((0 : Int)).toNat = 0 from rfl, add_zero_addr] at hx0
        obtain ⟨la, hla⟩ : ∃ la, rd x ((m : Int) - 1) = la := ⟨_, rfl⟩
        have hla2 : 2 * la = (m : Int) := by rw [← hla]; exact hOk.out.last
        rw [hla] at hx1
        clear hla
        have hxl0 : (0 : Int) < (x.length : Int) := by have := hOk.out.len; omega
        have hxl1 : ((m : Int) - 1) < (x.length : Int) := by have := hOk.out.len; omega
        have hxl2 : 0 ≤ ((m : Int) - 1) := by omega
        have hla3 : (2 * la != (m : Int)) = false := by rw [hla2]; simp
        have hla4 : 0 ≤ la ∧ la ≤ 10 := by omega
        obtain ⟨hla5, hla6⟩ := hla4
        clear hla2
        by_cases hi0 : i = 0
        · subst hi0
          go_wp2
          go_roundw
          case measure => simp [intOf]; omega
          case rel => exact ⟨1, by omega, by go_num, hb6, HCR5⟩
        · have hip : (0 : Int) < (i : Int) := by omega
          obtain ⟨ad2, A2, c2, hA2, hcell2, hle2, hC2⟩ := row_at HCR5.out (i - 1) (by omega)
          cases hA2
          have hi1 : ((i : Int) - 1).toNat = i - 1 := by omega
          have hi2 : 0 ≤ (i : Int) - 1 := by omega
          have hi4 : (i : Int) ≤ 1000000000 := by omega
          have hi3 : (i : Int) - 1 < (R.length : Int) := by omega
          obtain ⟨y, hy⟩ : ∃ y, R.getD (i - 1) [] = y := ⟨_, rfl⟩
          have hcmp2 := hcmp'.out (by omega)
          rw [hy] at hcmp2 hcell2 hle2 hC2
          have hCmp := Aside0.mk (PRowsKnown.slices_Compare_int_int.calls 20 A2 c2 y (some xd) c' x (-1) w5 hC2 hle2 HC5.out hle hcmp2)
          clear hy hcmp2 hC2
          go_wp2_with fail
          refine hCmp.out.mono ?_
          clear hCmp
          rintro e w7 ⟨rfl, hd7⟩
          obtain ⟨m7, rfl⟩ := hd7
          go_wp2
          go_roundw
          case measure => simp [intOf]; omega
          case rel => exact ⟨i + 1, by omega, by go_num, ⟨pw_below_drewN hb6.out _⟩, ⟨Kd.C_drewN HCR5.out _⟩⟩
      · obtain rfl : i = R.length := by omega
        go_wp2_with fail
        refine (awake_calls _).mono ?_
        rintro e w7 ⟨rfl, hb7⟩
        replace hb7 := Aside0.mk hb7
        go_wp2
        go_ret
        exact ⟨rfl, bel2 HBw.out hb7.out⟩



set_option maxHeartbeats 1000000 in
set_option maxRecDepth 100000 in
theorem known_err (n : Int) (h : ¬ (2 ≤ n ∧ n ≤ 10)) (w : World) : Calls Try.prog 4 #[.int .i64 n] w fun e w' => e = .returned (.bool true) ∧ Below w.heap.size w w' := by
  go_enter Try.func4, Try.ntmps4
  go_wp2_with fail
  refine (Count_err n _ h).mono ?_
  rintro e w1 ⟨rfl, hw1⟩
  obtain rfl := hw1
  go_wp2_with fail
  refine (awake_calls _).mono ?_
  rintro e w2 ⟨rfl, hb⟩
  replace hb := Aside0.mk hb
  go_wp2
  go_ret
  exact ⟨rfl, hb.out⟩

theorem known_walk (n : Int) (w : World) : Calls Try.prog 4 #[.int .i64 n] w fun e w' => e = .returned (.bool true) ∧ Below w.heap.size w w' := by
  by_cases h : 2 ≤ n ∧ n ≤ 10
  · obtain ⟨m, rfl⟩ := Int.eq_ofNat_of_zero_le (show 0 ≤ n by omega)
    by_cases h8 : m ≤ 8
    · exact known_small m (by omega) h8 w
    · exact known_big m (by omega) (by omega) w
  · exact known_err n h w

end Go.Proofs.Ytblfoijalcmfkaa.Hand
