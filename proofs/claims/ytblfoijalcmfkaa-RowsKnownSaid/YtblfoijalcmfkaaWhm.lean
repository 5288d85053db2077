/- The reference's search, a round. -/
import Derived.Test.YtblfoijalcmfkaaWhl
namespace Go.Proofs.Ytblfoijalcmfkaa.Hand
open Go.RowKit Go.Shelf Go.Proofs.YtblfoijalcmfkaaW.PrintWords Go.Proofs.YtblfoijalcmfkaaW.PrintLast Go.Proofs.YtblfoijalcmfkaaW.PrintMore Go.Proofs.YtblfoijalcmfkaaHnd Go.Proofs.Ytblfoijalcmfkaa.PRowsCounts
set_option linter.unusedVariables false
set_option linter.unusedSimpArgs false

theorem JL_open {w0 : World} {P : Nat} {F : Rws} {w : World} (h : JL w0 P F w) : ∃ A c, w.heap[P]? = some (.cells #[.slice A F.length c] 28 (0, 0)) := by
  obtain ⟨h1, A0, m, c0, h2, h3⟩ := h
  obtain ⟨A1, c1, hR⟩ := Kd.R_slice h3
  cases hR
  exact ⟨_, _, h2⟩

set_option maxHeartbeats 2000000 in
set_option maxRecDepth 100000 in
theorem whole_more (n most P : Nat) (hn : 2 ≤ n) (hn1 : n ≤ 10) (w0 : World) (hP : w0.heap.size ≤ P) (k : Nat)
    (ih : ∀ (l : List Int) (F : Rws) (A : Option Addr) (c : Nat) (w : World), JL w0 P F w → InR n l → 0 < l.length → l.length + k = n → l.length ≤ c → Kd.C (Kd.int .i64) w A l.length l → FarT P A w →
      Calls Try.prog 35 #[.slice A l.length c, .int .i64 n, .int .i64 most, .pointer (some ⟨P, 0, none⟩)] w (WholePost w0 P (wholeP n most k l F) w))
    (l : List Int) (F : Rws) (A : Option Addr) (c : Nat) (w : World) (hJ : JL w0 P F w) (hl : InR n l) (hl0 : 0 < l.length) (hlen : l.length + (k + 1) = n) (hc : l.length ≤ c) (hr : Kd.C (Kd.int .i64) w A l.length l) (hA : FarT P A w) (hev : evB n l = true) :
    Calls Try.prog 35 #[.slice A l.length c, .int .i64 n, .int .i64 most, .pointer (some ⟨P, 0, none⟩)] w (WholePost w0 P (loopW n most (wholeP n most k) l n 0 F) w) := by
  have HE := Aside0.mk (every_calls n (by omega) (by omega) l hl (by omega) A c w hr hc)
  have HJ := Aside0.mk hJ
  have Hv := Aside0.mk hev
  have HR := Aside0.mk hr
  have HI := Aside0.mk ih
  have HA := Aside0.mk hA
  have Hin := Aside0.mk hl
  have heq : ((l.length : Int) == (n : Int)) = false := beq_eq_false_iff_ne.mpr (by omega)
  have heq2 : (l.length == n) = false := beq_eq_false_iff_ne.mpr (by omega)
  have Hl := Aside0.mk hlen
  have hl10 : l.length ≤ 9 := by omega
  obtain ⟨ad, rfl, hz_⟩ := hr.2.2 hl0
  clear hz_
  obtain ⟨i0, hi, hz0, hz1, hz2⟩ := info_parts info3
  clear hJ hr hev hl hlen ih hA
  go_enter Try.func35, Try.ntmps35
  go_wp2_with fail
  refine HE.out.mono ?_
  rw [Hv.out]
  rintro e w1 ⟨rfl, hb⟩
  have HJ1 := Aside0.mk (JL_below HJ.out hb)
  have HK1 := Aside0.mk (Kt.of_none (B := P) (grown_of_below hb none))
  clear HE hb HJ
  go_wp2
  go_loopw [9, 37] (fun v9 v37 wr => ∃ (x : Nat) (cn : Int) (G : Rws), x ≤ n ∧ v9 = .int .i64 cn ∧ v37 = .int .i64 x ∧ Aside0 (loopW n most (wholeP n most k) l (n - x) cn G = loopW n most (wholeP n most k) l n 0 F) ∧ Aside0 (JL w0 P G wr) ∧ Aside0 (Kt P w wr)) (fun _ v _ => n - (intOf v).toNat)
  case atStart => exact ⟨0, 0, F, Nat.zero_le _, rfl, rfl, ⟨rfl⟩, HJ1, HK1⟩
  case round =>
    obtain ⟨x, cn, G, hx, rfl, rfl, HLp, HJx, HKx⟩ := hrel
    clear HJ1 HK1
    have HRx := Aside0.mk (C_kt HR.out HKx.out HA.out)
    by_cases hxn : x < n
    · have hrx : n - x = (n - (x + 1)) + 1 := by omega
      have hrx2 : n - (n - (x + 1) + 1) = x := by omega
      have HLp' := HLp.out
      rw [hrx, loopW, hrx2] at HLp'
      replace HLp := Aside0.mk HLp'
      clear HLp' hrx hrx2
      have HC := Aside0.mk (cells_of_C HRx.out)
      have hg9 : (l.length : Int) ≤ (c : Int) := by omega
      go_wp2_with (at_builtin; refine wpList_append_grows _ rfl _ _ 25 rfl 3 i0 (.int .i64 0) 1 8 Try.underlying25 hi hz0 hz1 hz2 rfl (by decide) (some ad) l.length l.length (l.map (Value.int .i64)) rfl (by simp) (by simp) ?c1 ⟨wr.heap.size, 0, none⟩ 1 1 [.int .i64 x] rfl rfl ?c2 (by simp [Value.oneCell']) (by omega) (by unfold maxLen; omega) (by omega) ?c3)
      case c1 =>
        intro b hb j u hu
        cases hb
        exact pw_cell_below (w := wr) ((Below.refl _ _).alloc (Nat.le_refl _) _) (HC.out j u hu)
      case c2 => exact cell_one_at (by simp)
      case c3 =>
        intro v' w2 hown hgrow
        obtain ⟨g, cap, rfl, hgc⟩ := own_succ hown
        have hgl : wr.heap.size + 1 ≤ g := by have := own_base hown g rfl; simpa using this
        obtain ⟨csg, hty⟩ := own_typed hown g rfl
        have hC2 : Kd.C (Kd.int .i64) w2 (some ⟨g, 0, none⟩) (l ++ [(x : Int)]).length (l ++ [(x : Int)]) := C_of_ownsRow (by simpa using hown) (by simp)
        have hgn : wr.grownBy w2 none := (World.grownBy_alloc wr (.cells #[.int .i64 x] 3) none).trans hgrow
        have HJ2 := JL_step w0 P G wr w2 HJx.out hgn
        have HK2 := HKx.out.trans (Kt.of_none hgn)
        have hin : InR n (l ++ [(x : Int)]) := by
          intro z hz
          rcases List.mem_append.1 hz with h | h
          · exact Hin.out z h
          · simp at h; omega
        have hPg : P < wr.heap.size := by obtain ⟨A_, c_, h_⟩ := JL_open HJx.out; exact blk_lt h_
        have HPa := Aside0.mk (part_calls n (by omega) (by omega) (l ++ [(x : Int)]) hin (by simp; omega) (some ⟨g, 0, none⟩) cap w2 hC2 (by simp; omega))
        rw [show (l ++ [(x : Int)]).length = l.length + 1 from by simp] at HPa
        have HC2 := Aside0.mk hC2
        replace HJ2 := Aside0.mk HJ2
        replace HK2 := Aside0.mk HK2
        replace hty := Aside0.mk hty
        replace hin := Aside0.mk hin
        clear hown hgrow hgn hC2 HC HRx HJx HKx
        cases hpa : paB (l ++ [(x : Int)]) with
        | false =>
          have Hpa := Aside0.mk hpa
          clear hpa
          go_wp2_with fail
          refine HPa.out.mono ?_
          rw [Hpa.out]
          rintro e w3 ⟨rfl, hb3⟩
          replace hb3 := Aside0.mk hb3
          go_wp2
          go_roundw
          case measure => simp [intOf]; omega
          case rel =>
            refine ⟨x + 1, cn, G, by omega, rfl, by go_num, ⟨?_⟩, ⟨JL_below HJ2.out hb3.out⟩, ⟨HK2.out.trans (Kt.of_none (grown_of_below hb3.out none))⟩⟩
            have h1 := HLp.out
            rw [Hpa.out] at h1
            exact h1
        | true =>
          have Hpa := Aside0.mk hpa
          clear hpa
          obtain ⟨r1, G', hr1⟩ : ∃ r1 G', wholeP n most k (l ++ [(x : Int)]) G = (r1, G') := ⟨_, _, rfl⟩
          have hLp := HLp.out
          rw [Hpa.out, if_pos rfl, hr1] at hLp
          have HI2 : ∀ w3 : World, Below w2.heap.size w2 w3 → Calls Try.prog 35 #[.slice (some ⟨g, 0, none⟩) (l.length + 1) cap, .int .i64 n, .int .i64 most, .pointer (some ⟨P, 0, none⟩)] w3 (WholePost w0 P (r1, G') w3) := by
            intro w3 hb3
            have := HI.out (l ++ [(x : Int)]) G (some ⟨g, 0, none⟩) cap w3 (JL_below HJ2.out hb3) hin.out (by simp) (by have := Hl.out; simp; omega) (by simpa using hgc) (Kd.C_below HC2.out hb3) (by intro ad' e; cases e; exact ⟨by show g ≠ P; omega, csg, blk_below hty.out hb3 (blk_lt hty.out)⟩)
            rw [hr1] at this
            simpa using this
          replace HI2 := Aside0.mk HI2
          replace HLp := Aside0.mk hLp
          clear hLp hr1
          go_wp2_with fail
          refine HPa.out.mono ?_
          rw [Hpa.out]
          rintro e w3 ⟨rfl, hb3⟩
          have HI3 := Aside0.mk (HI2.out w3 hb3)
          replace hb3 := Aside0.mk hb3
          clear HI2
          go_wp2_with fail
          refine HI3.out.mono ?_
          clear HI3
          rintro e w4 ⟨rfl, hJ4, hK4⟩
          obtain ⟨A4, c4, h4⟩ := JL_open hJ4
          have a0 := blk_cell h4 0
          simp at a0
          have HJ4 := Aside0.mk hJ4
          have HK4 := Aside0.mk ((HK2.out.trans (Kt.of_none (grown_of_below hb3.out none))).trans hK4)
          clear hJ4 hK4 h4
          by_cases hm1 : most = 1
          · by_cases hg1 : List.length G' = 1
            · have q1 : ((most : Int) == 1) = true := beq_iff_eq.mpr (by omega)
              have q2 : ((List.length G' : Int) == 1) = true := beq_iff_eq.mpr (by omega)
              have q3 : (List.length G' == 1) = true := beq_iff_eq.mpr hg1
              have hLp := HLp.out
              rw [if_pos ⟨hm1, hg1⟩] at hLp
              replace HLp := Aside0.mk hLp
              clear hLp hm1 hg1
              go_wp2
              go_ret
              exact ⟨ret_i64 (by rw [← HLp.out]), by rw [← HLp.out]; exact HJ4.out, HK4.out⟩
            · have q1 : ((most : Int) == 1) = true := beq_iff_eq.mpr (by omega)
              have q2 : ((List.length G' : Int) == 1) = false := beq_eq_false_iff_ne.mpr (by omega)
              have q3 : (List.length G' == 1) = false := beq_eq_false_iff_ne.mpr hg1
              have hLp := HLp.out
              rw [if_neg (by omega)] at hLp
              replace HLp := Aside0.mk hLp
              clear hLp hm1 hg1
              go_wp2
              go_roundw
              case measure => simp [intOf]; omega
              case rel => exact ⟨x + 1, _, G', by omega, rfl, by go_num, HLp, HJ4, HK4⟩
          · have q1 : ((most : Int) == 1) = false := beq_eq_false_iff_ne.mpr (by omega)
            have q3 : (most == 1) = false := beq_eq_false_iff_ne.mpr hm1
            have hLp := HLp.out
            rw [if_neg (by omega)] at hLp
            replace HLp := Aside0.mk hLp
            clear hLp hm1
            go_wp2
            go_roundw
            case measure => simp [intOf]; omega
            case rel => exact ⟨x + 1, _, G', by omega, rfl, by go_num, HLp, HJ4, HK4⟩
    · obtain rfl : x = n := by omega
      have HLp' := HLp.out
      rw [Nat.sub_self, loopW] at HLp'
      replace HLp := Aside0.mk HLp'
      clear HLp'
      go_wp2
      go_ret
      exact ⟨ret_i64 (by rw [← HLp.out]), by rw [← HLp.out]; exact HJx.out, HKx.out⟩


theorem whole_calls (n most P : Nat) (hn : 2 ≤ n) (hn1 : n ≤ 10) (hm : most < 1000000) (w0 : World) (hP : w0.heap.size ≤ P) (k : Nat) :
    ∀ (l : List Int) (F : Rws) (A : Option Addr) (c : Nat) (w : World), JL w0 P F w → InR n l → 0 < l.length → l.length + k = n → l.length ≤ c → Kd.C (Kd.int .i64) w A l.length l → FarT P A w →
      Calls Try.prog 35 #[.slice A l.length c, .int .i64 n, .int .i64 most, .pointer (some ⟨P, 0, none⟩)] w (WholePost w0 P (wholeP n most k l F) w) := by
  induction k with
  | zero =>
    intro l F A c w hJ hl hl0 hlen hc hr hA
    cases hev : evB n l with
    | false => rw [wholeP, hev]; exact whole_no n most P hn hn1 w0 l F A c w hJ hl (by omega) hc hr hev
    | true =>
      rw [wholeP, hev]
      simp only [if_true]
      by_cases hF : F.length < most
      · rw [if_pos hF]; exact whole_end_put n most P hn hn1 w0 hP l F A c w hJ hl (by omega) hc hr hev hF hm
      · rw [if_neg hF]
        have hFl : most ≤ F.length := by omega
        exact whole_end_full n most P hn hn1 w0 l F A c w hJ hl (by omega) hc hr hev hFl
  | succ k ih =>
    intro l F A c w hJ hl hl0 hlen hc hr hA
    cases hev : evB n l with
    | false => rw [wholeP, hev]; exact whole_no n most P hn hn1 w0 l F A c w hJ hl (by omega) hc hr hev
    | true => rw [wholeP, hev]; exact whole_more n most P hn hn1 w0 hP k ih l F A c w hJ hl hl0 hlen hc hr hA hev

end Go.Proofs.Ytblfoijalcmfkaa.Hand
