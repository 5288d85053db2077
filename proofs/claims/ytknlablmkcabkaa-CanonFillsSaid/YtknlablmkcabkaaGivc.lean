/- Whether the second condition holds, as the reference says it: all products of roots that are powers of different primes. -/
import Derived.Test.YtknlablmkcabkaaQCanonRootsx6
import Derived.Test.YtknlablmkcabkaaApp
import Derived.StillTailTactics
namespace Go.Proofs.Ytknlablmkcabkaa
open Go.RowKit Go.Shelf Go.Proofs.YtknlablmkcabkaaW.PrintWords Go.Proofs.YtknlablmkcabkaaW.PrintLast Go.Proofs.YtknlablmkcabkaaW.PrintMore Go.Proofs.YtknlablmkcabkaaHnd QCanonRoots
set_option linter.unusedVariables false
set_option linter.unusedSimpArgs false

namespace sec
def times (before : List Int) (s : Int) : List Int := before.map fun x => wrap64 (x * s)
noncomputable def inner (k : Nat) (p : Int) (before : List Int) : List Int → List Int → Option (List Int)
  | [], ps => some ps
  | s :: l, ps => (sackbutref02_base.f k s).bind fun b => if b = p then (if ps.length + before.length ≤ 1000000 then inner k p before l (ps ++ times before s) else none) else inner k p before l ps
noncomputable def prods (k : Nat) (n a : Int) : Nat → Int → List Int → Option (List Int)
  | 0, _, _ => none
  | m + 1, p, ps => if p ≤ n then (lim fun q => sackbutref02_Roots.f q n a).bind fun l => (inner k p ps l ps).bind fun ps' => prods k n a m (wrap64 (p + 1)) ps' else some ps
noncomputable def check (k : Nat) (n a : Int) : List Int → Option Bool
  | [] => some true
  | x :: l => if 1 < x then (lim fun q => sackbutref02_IsRoot.f q n a x).bind fun b => if b = true then check k n a l else some false else check k n a l
end sec
open sec

/-- The roots, read beside a row that grows. -/
def Beside (W : World) (A : Option Addr) (l : List Int) (g : Nat) : Prop := Kd.C (Kd.int .i64) W A l.length l ∧ ∀ ad, A = some ad → ad.block ≠ g ∧ ad.block < W.heap.size
theorem Beside.grown {W W1 : World} {A : Option Addr} {l : List Int} {g g1 : Nat} (h : Beside W A l g) (hg : W.grownBy W1 (some g)) (h1 : g1 = g ∨ W.heap.size ≤ g1) : Beside W1 A l g1 :=
  ⟨C_grown_int h.1 hg (fun ad e => by have := (h.2 ad e).1; simpa using this), fun ad e => ⟨by have := h.2 ad e; omega, by have := h.2 ad e; have := hg.size; omega⟩⟩
theorem Beside.drawn {W W1 : World} {A : Option Addr} {l : List Int} {g : Nat} (h : Beside W A l g) (hD : Drawn0 W W1) : Beside W1 A l g :=
  ⟨Kd.C_below h.1 hD.below, fun ad e => ⟨(h.2 ad e).1, by have := (h.2 ad e).2; have := hD.below.size; omega⟩⟩
theorem take_times (bf : List Int) (s : Int) (j : Nat) (hj : j < bf.length) : times (bf.take (j + 1)) s = times (bf.take j) s ++ [wrap64 (bf.getD j 0 * s)] := by
  unfold times
  rw [List.take_succ_eq_append_getElem hj, List.map_append]
  simp [List.getD, List.getElem?_eq_getElem hj]
theorem drop_get (l : List Int) (i : Nat) (hi : i < l.length) : l.drop i = rd l (i : Int) :: l.drop (i + 1) := by
  rw [List.drop_eq_getElem_cons hi]
  simp [rd, List.getD, List.getElem?_eq_getElem hi]

noncomputable def sackbutref02_Second.f (n a : Int) : Option Bool := (prods 100 n a 100 2 [1]).bind fun ps => if ps.length ≤ 1000000 then check 100 n a ps else none

set_option maxHeartbeats 1000000 in
set_option maxRecDepth 100000 in
theorem sackbutref02_Second.calls (a0 : Int) (a1 : Int) (r : Bool) (w : World) (h : sackbutref02_Second.f a0 a1 = some r) :
    Calls Try.prog 18 #[.int .i64 a0, .int .i64 a1] w fun e w' => e = .returned (.bool r) ∧ Below w.heap.size w w' := by
  unfold sackbutref02_Second.f at h
  obtain ⟨full, hp, h'⟩ := Option.bind_eq_some_iff.mp h
  clear h
  split at h'
  case isFalse => cases h'
  case isTrue hful =>
  have HP := Aside0.mk hp
  have HC := Aside0.mk h'
  have Hful := Aside0.mk hful
  clear hp h' hful
  go_enter Try.func18, Try.ntmps18
  go_wp2
  go_loopg [5, 6] 100 (fun m v5 v6 wr => ∃ (p : Int) (ps : List Int) (g cp : Nat), v6 = .int .i64 p ∧ v5 = .slice (some ⟨g, 0, none⟩) ps.length cp ∧ Aside0 (prods 100 a0 a1 m p ps = some full) ∧ Aside0 (Row wr g cp ps) ∧ Aside0 (ps.length ≤ 1000000) ∧ Aside0 (w.heap.size ≤ g) ∧ Aside0 (Below w.heap.size w wr))
  case atStart =>
    refine ⟨2, [1], w.heap.size, 1, rfl, rfl, HP, ⟨⟨_, blk_new w _, by simp, by simp, by simp [maxLen], by simp⟩⟩, ⟨by simp⟩, ⟨Nat.le_refl _⟩, ⟨(Below.refl _ _).alloc (Nat.le_refl _) _⟩⟩
  case round =>
    obtain ⟨p, ps, g, cp, rfl, rfl, HA, HR, HL, HG, HB⟩ := hrel
    clear HP
    cases gk with
    | zero => exact absurd HA.out (by simp [prods])
    | succ m =>
    have hA := HA.out
    clear HA
    simp only [prods] at hA
    by_cases hpn : p ≤ a0
    · rw [if_pos hpn] at hA
      obtain ⟨l, hl, hA1⟩ := Option.bind_eq_some_iff.mp hA
      clear hA
      obtain ⟨kr, hl⟩ := lim_some hl
      obtain ⟨ps', hi, hA⟩ := Option.bind_eq_some_iff.mp hA1
      clear hA1
      have Hl := Aside0.mk hl
      have Hi := Aside0.mk hi
      have HA := Aside0.mk hA
      clear hl hi hA
      go_wp2_with fail
      refine (sackbutref02_Roots.calls kr a0 a1 l _ Hl.out).mono ?_
      rintro e w2 ⟨v, rfl, hR2, hb2⟩
      obtain ⟨A, c, rfl⟩ := Kd.R_slice hR2
      have HBes : Aside0 (Beside w2 A l g) := ⟨(Kd.R_reads' hR2).2.2, fun ad e => by
        subst e
        have h1 := Kd.R_base hR2 ad.block rfl
        have h2 := Kd.R_lt hR2 ad.block rfl
        have h3 := HR.out.pre.lt
        exact ⟨by omega, h2⟩⟩
      have HR2 : Aside0 (Row w2 g cp ps) := ⟨HR.out.kept (hb2.block g HR.out.pre.lt)⟩
      have HB2 : Aside0 (Below w.heap.size w w2) := ⟨below_step HB.out hb2⟩
      have Hle2 := Aside0.mk hb2.size
      have hlen2 := Aside0.mk (Kd.R_reads' hR2).2.1
      clear hR2 hb2
      go_wp2
      go_loopw [5, 25] (fun v5 v25 wr => ∃ (i : Nat) (qs : List Int) (g1 cp1 : Nat), i ≤ l.length ∧ v25 = .int .i64 i ∧ v5 = .slice (some ⟨g1, 0, none⟩) qs.length cp1 ∧ Aside0 (inner 100 p ps (l.drop i) qs = some ps') ∧ Aside0 (Row wr g1 cp1 qs) ∧ Aside0 (qs.length ≤ 1000000) ∧ Aside0 (w.heap.size ≤ g1) ∧ Aside0 (Below w.heap.size w wr) ∧ Aside0 (Pre wr g ps) ∧ Aside0 (Beside wr A l g1) ∧ Aside0 (g = g1 → ps.length ≤ qs.length)) (fun v5 v25 _ => l.length - (intOf v25).toNat)
      case atStart => exact ⟨0, ps, g, cp, Nat.zero_le _, rfl, rfl, by simpa using Hi, HR2, HL, HG, HB2, ⟨HR2.out.pre⟩, HBes, ⟨fun _ => Nat.le_refl _⟩⟩
      case round =>
        clear Hi HR2 HBes HB2
        obtain ⟨i, qs, g1, cp1, hi, rfl, rfl, HI, HRq, HLq, HGq, HBq, HPq, HBe, HX⟩ := hrel
        have hmax : l.length ≤ 9223372036854775807 := HBe.out.1.2.1
        by_cases hil : i < l.length
        · have hI := HI.out
          clear HI
          rw [drop_get l i hil] at hI
          simp only [inner] at hI
          obtain ⟨b, hb, hI1⟩ := Option.bind_eq_some_iff.mp hI
          clear hI
          have Hb := Aside0.mk hb
          clear hb
          obtain ⟨ad, hA, hcell⟩ := Kd.at_int HBe.out.1 (i : Int) (by omega) (by omega)
          subst hA
          simp only [Int.toNat_natCast] at hcell
          have hil2 : (i : Int) < (l.length : Int) := by omega
          obtain ⟨s, hs⟩ : ∃ s, rd l (i : Int) = s := ⟨_, rfl⟩
          rw [hs] at hcell Hb hI1
          clear hs
          by_cases hbp : b = p
          · subst hbp
            rw [if_pos rfl] at hI1
            split at hI1
            case isFalse => cases hI1
            case isTrue hlen =>
            have HI := Aside0.mk hI1
            have Hlen := Aside0.mk hlen
            clear hI1 hlen
            have hbb : (b == b) = true := by simp
            go_wp2_with fail
            refine (sackbutref02_base.calls 100 s b _ Hb.out).mono ?_
            rintro e w3 ⟨rfl, hD3⟩
            have HR3 : Aside0 (Row w3 g1 cp1 qs) := ⟨HRq.out.kept (hD3.below.block g1 HRq.out.pre.lt)⟩
            have HB3 : Aside0 (Below w.heap.size w w3) := ⟨below_step HBq.out hD3.below⟩
            have HP3 : Aside0 (Pre w3 g ps) := ⟨HPq.out.kept (hD3.below.block g HPq.out.lt)⟩
            have HE3 : Aside0 (Beside w3 (some ad) l g1) := ⟨HBe.out.drawn hD3⟩
            clear hD3
            go_wp2
            go_loopw [5, 35] (fun v5 v35 wr => ∃ (j : Nat) (g2 cp2 : Nat), j ≤ ps.length ∧ v35 = .int .i64 j ∧ v5 = .slice (some ⟨g2, 0, none⟩) (qs.length + j) cp2 ∧ Aside0 (Row wr g2 cp2 (qs ++ times (ps.take j) s)) ∧ Aside0 (w.heap.size ≤ g2) ∧ Aside0 (Below w.heap.size w wr) ∧ Aside0 (Pre wr g ps) ∧ Aside0 (Beside wr (some ad) l g2) ∧ Aside0 (g = g2 → ps.length ≤ qs.length)) (fun v5 v35 _ => ps.length - (intOf v35).toNat)
            case atStart => exact ⟨0, g1, cp1, Nat.zero_le _, rfl, rfl, by simpa [times] using HR3, HGq, HB3, HP3, HE3, HX⟩
            case round =>
              obtain ⟨j, g2, cp2, hj, rfl, rfl, HRj, HGj, HBj, HPj, HEj, HXj⟩ := hrel
              clear HR3 HB3 HP3 HE3
              have hmaxp := HL.out
              by_cases hjl : j < ps.length
              · have hxc := HPj.out.cell j hjl
                have hjl2 : (j : Int) < (ps.length : Int) := by omega
                have HT := Aside0.mk (take_times ps s j hjl)
                obtain ⟨x, hx⟩ : ∃ x, ps.getD j 0 = x := ⟨_, rfl⟩
                rw [hx] at hxc HT
                clear hx
                have Hjl := Aside0.mk hjl
                have hlenT : Aside0 ((qs ++ times (ps.take j) s).length = qs.length + j) := ⟨by simp [times]; omega⟩
                clear hjl
                go_wp2_with (at_builtin; refine app_int rfl _ _ 31 8 rfl Try.underlying31 info3h g2 cp2 (qs ++ times (ps.take j) s) (wrap64 (x * s)) (by rw [hlenT.out]; rfl) rfl HRj.out (by have := hlenT.out; have := Hlen.out; have := Hjl.out; omega) ?app)
                case app =>
                  intro v1 W1 g3 cp3 hv hR3 hpre hgr hg3
                  have hlenT2 : Aside0 ((times (ps.take j) s).length = j) := ⟨by simp [times]; have := Hjl.out; omega⟩
                  rw [hlenT2.out] at hv
                  subst hv
                  have HR3 : Aside0 (Row W1 g3 cp3 (qs ++ times (ps.take (j + 1)) s)) := ⟨by rw [HT.out]; exact hR3⟩
                  have HP3 : Aside0 (Pre W1 g ps) := ⟨hpre g ps (fun e => by have := HXj.out e; have := hlenT.out; omega) HPj.out⟩
                  have HE3 : Aside0 (Beside W1 (some ad) l g3) := ⟨HEj.out.grown hgr hg3⟩
                  have HB3 : Aside0 (Below w.heap.size w W1) := ⟨HBj.out.grown hgr HBj.out.size (fun k e => by cases e; exact HGj.out)⟩
                  have HG3 : Aside0 (w.heap.size ≤ g3) := ⟨by have := HGj.out; have := HBj.out.size; omega⟩
                  have HX3 : Aside0 (g = g3 → ps.length ≤ qs.length) := ⟨fun e => by
                    rcases hg3 with h1 | h1
                    · exact HXj.out (e.trans h1)
                    · have := HPj.out.lt; omega⟩
                  clear hR3 hpre hgr hg3
                  go_wp2
                  go_roundw
                  case measure => have := Hjl.out; simp [intOf]; omega
                  case rel => exact ⟨j + 1, g3, cp3, by have := Hjl.out; omega, by go_num, rfl, HR3, HG3, HB3, HP3, HE3, HX3⟩
              · obtain rfl : j = ps.length := by omega
                rw [List.take_length] at HRj
                have HLj : Aside0 ((qs ++ times ps s).length = qs.length + ps.length) := ⟨by simp [times]⟩
                go_wp2
                go_roundw
                case measure => simp [intOf]; omega
                case rel => exact ⟨i + 1, qs ++ times ps s, g2, cp2, by omega, by go_num, by rw [HLj.out], HI, HRj, ⟨by rw [HLj.out]; exact Hlen.out⟩, HGj, HBj, HPj, HEj, ⟨fun e => by rw [HLj.out]; omega⟩⟩
          · rw [if_neg hbp] at hI1
            have HI := Aside0.mk hI1
            clear hI1
            have hbb : (b == p) = false := beq_eq_false_iff_ne.mpr hbp
            have hbb2 : (b != p) = true := bne_iff_ne.mpr hbp
            clear hbp
            go_wp2_with fail
            refine (sackbutref02_base.calls 100 s b _ Hb.out).mono ?_
            rintro e w3 ⟨rfl, hD3⟩
            have HR3 : Aside0 (Row w3 g1 cp1 qs) := ⟨HRq.out.kept (hD3.below.block g1 HRq.out.pre.lt)⟩
            have HB3 : Aside0 (Below w.heap.size w w3) := ⟨below_step HBq.out hD3.below⟩
            have HP3 : Aside0 (Pre w3 g ps) := ⟨HPq.out.kept (hD3.below.block g HPq.out.lt)⟩
            have HE3 : Aside0 (Beside w3 (some ad) l g1) := ⟨HBe.out.drawn hD3⟩
            clear hD3
            go_wp2
            go_roundw
            case measure => simp [intOf]; omega
            case rel => exact ⟨i + 1, qs, g1, cp1, by omega, by go_num, rfl, HI, HR3, HLq, HGq, HB3, HP3, HE3, HX⟩
        · obtain rfl : i = l.length := by omega
          have hI := HI.out
          clear HI
          rw [List.drop_length] at hI
          simp only [inner, Option.some.injEq] at hI
          subst hI
          go_wp2
          go_roundg m
          case measure => omega
          case rel => exact ⟨wrap64 (p + 1), qs, g1, cp1, rfl, rfl, HA, HRq, HLq, HGq, HBq⟩
    · rw [if_neg hpn] at hA
      cases hA
      go_wp2
      go_loopw [49] (fun v49 wr => ∃ (i : Nat), i ≤ full.length ∧ v49 = .int .i64 i ∧ Aside0 (check 100 a0 a1 (full.drop i) = some r) ∧ Aside0 (Row wr g cp full) ∧ Aside0 (Below w.heap.size w wr)) (fun v49 _ => full.length - (intOf v49).toNat)
      case atStart => exact ⟨0, Nat.zero_le _, rfl, by simpa using HC, HR, HB⟩
      case round =>
        obtain ⟨i, hi, rfl, HI, HRi, HBi⟩ := hrel
        by_cases hil : i < full.length
        · have hI := HI.out
          clear HI
          rw [drop_get full i hil] at hI
          simp only [check] at hI
          have hxc := HRi.out.pre.cell i hil
          rw [show full.getD i 0 = rd full (i : Int) from by simp [rd, List.getD]] at hxc
          have hil2 : (i : Int) < (full.length : Int) := by omega
          obtain ⟨x, hx⟩ : ∃ x, rd full (i : Int) = x := ⟨_, rfl⟩
          rw [hx] at hxc hI
          clear hx
          by_cases hx1 : 1 < x
          · rw [if_pos hx1] at hI
            obtain ⟨b, hb, hI1⟩ := Option.bind_eq_some_iff.mp hI
            clear hI
            obtain ⟨kr, hb⟩ := lim_some hb
            have Hb := Aside0.mk hb
            clear hb
            have hx4 : decide (1 < x) = true := decide_eq_true hx1
            cases b with
            | true =>
              rw [if_pos rfl] at hI1
              have HI := Aside0.mk hI1
              clear hI1
              go_wp2_with fail
              refine (sackbutref02_IsRoot.calls kr a0 a1 x true _ Hb.out).mono ?_
              rintro e w3 ⟨rfl, hb3⟩
              have HR3 : Aside0 (Row w3 g cp full) := ⟨HRi.out.kept (hb3.block g HRi.out.pre.lt)⟩
              have HB3 : Aside0 (Below w.heap.size w w3) := ⟨below_step HBi.out hb3⟩
              clear hb3
              have hmax := Hful.out
              go_wp2
              go_roundw
              case measure => simp [intOf]; omega
              case rel => exact ⟨i + 1, by omega, by go_num, HI, HR3, HB3⟩
            | false =>
              simp only [Bool.false_eq_true, if_false] at hI1
              cases hI1
              go_wp2_with fail
              refine (sackbutref02_IsRoot.calls kr a0 a1 x false _ Hb.out).mono ?_
              rintro e w3 ⟨rfl, hb3⟩
              have HB3 : Aside0 (Below w.heap.size w w3) := ⟨below_step HBi.out hb3⟩
              clear hb3
              go_wp2
              go_ret
              exact ⟨rfl, HB3.out⟩
          · rw [if_neg hx1] at hI
            have HI := Aside0.mk hI
            clear hI
            have hx2 : decide (1 < x) = false := decide_eq_false hx1
            have hx3 : (1 < x) = False := eq_false hx1
            clear hx1
            have hmax := Hful.out
            go_wp2
            go_roundw
            case measure => simp [intOf]; omega
            case rel => exact ⟨i + 1, by omega, by go_num, HI, HRi, HBi⟩
        · obtain rfl : i = full.length := by omega
          have hI := HI.out
          clear HI
          rw [List.drop_length] at hI
          simp only [check, Option.some.injEq] at hI
          subst hI
          go_wp2
          go_ret
          exact ⟨rfl, HBi.out⟩

end Go.Proofs.Ytknlablmkcabkaa
