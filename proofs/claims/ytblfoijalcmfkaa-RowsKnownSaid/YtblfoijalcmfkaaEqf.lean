/- Rows of rows are compared; what the reference's Fill, Count and List return. -/
import Derived.Test.YtblfoijalcmfkaaWhm
namespace Go.Proofs.Ytblfoijalcmfkaa.Hand
open Go.RowKit Go.Shelf Go.Proofs.YtblfoijalcmfkaaW.PrintWords Go.Proofs.YtblfoijalcmfkaaW.PrintLast Go.Proofs.YtblfoijalcmfkaaW.PrintMore Go.Proofs.YtblfoijalcmfkaaHnd Go.Proofs.Ytblfoijalcmfkaa.PRowsCounts
set_option linter.unusedVariables false
set_option linter.unusedSimpArgs false

theorem row_at {w : World} {A : Option Addr} {n : Nat} {F : Rws} (h : KdR.C w A n F) (i : Nat) (hi : i < n) :
    ∃ ad A' c', A = some ad ∧ w.cell? (ad.add i) = some (.slice A' (F.getD i []).length c') ∧ (F.getD i []).length ≤ c' ∧ Kd.C (Kd.int .i64) w A' (F.getD i []).length (F.getD i []) := by
  obtain ⟨ad, c, e, hl, ⟨A', c', rfl, hle, hC⟩, hcell⟩ := Kd.C_get h [] (i : Int) (by omega) (by omega)
  simp only [Int.toNat_natCast] at hC hcell hle
  refine ⟨ad, A', c', e, ?_, hle, hC⟩
  have := hcell 0 _ rfl
  rwa [show i * KdR.sz + 0 = i from Nat.mul_one i] at this

theorem equal_from (a b : List Int) (hlen : a.length = b.length) (hb : a.length ≤ 1000000) (d : Nat) : ∀ (k i : Nat), i + d = a.length → d < k → a.take i = b.take i →
    slices_Equal_int_int.l0 k a b (a.length : Int) (i : Int) = some (decide (a = b)) := by
  induction d with
  | zero =>
    intro k i h2 hk ht
    obtain ⟨k, rfl⟩ : ∃ m, k = m + 1 := ⟨k - 1, by omega⟩
    simp only [slices_Equal_int_int.l0]
    rw [if_neg (by omega)]
    rw [List.take_of_length_le (by omega), List.take_of_length_le (by omega)] at ht
    simp [ht]
  | succ d ih =>
    intro k i h2 hk ht
    obtain ⟨k, rfl⟩ : ∃ m, k = m + 1 := ⟨k - 1, by omega⟩
    simp only [slices_Equal_int_int.l0]
    rw [if_pos (by omega), if_pos (by omega), if_pos (by omega), if_pos (by omega)]
    by_cases he : rd a (i : Int) = rd b (i : Int)
    · rw [if_pos he]
      have := ih k (i + 1) (by omega) (by omega) (by rw [take_snoc' a i (by omega), take_snoc' b i (by omega), ht, he])
      rw [show wrap64 ((i : Int) + 1) = ((i + 1 : Nat) : Int) from by unfold wrap64; omega]
      exact this
    · rw [if_neg he]
      have : a ≠ b := fun e => he (by rw [e])
      simp [this]
theorem equal_pure (a b : List Int) (hb : a.length ≤ 1000000) : slices_Equal_int_int.f 1000002 a b = some (decide (a = b)) := by
  unfold slices_Equal_int_int.f
  by_cases hl : a.length = b.length
  · rw [if_pos (by omega)]
    exact equal_from a b hl hb a.length 1000002 0 (by omega) (by omega) (by simp)
  · rw [if_neg (by omega)]
    have : a ≠ b := fun e => hl (by rw [e])
    simp [this]
theorem equal_calls (a b : List Int) (A B : Option Addr) (c d : Nat) (w : World) (ha : Kd.C (Kd.int .i64) w A a.length a) (hc : a.length ≤ c) (hb : Kd.C (Kd.int .i64) w B b.length b) (hd : b.length ≤ d) (hl : a.length ≤ 1000000) :
    Calls Try.prog 13 #[.slice A a.length c, .slice B b.length d] w fun e w' => e = .returned (.bool (decide (a = b))) ∧ Drawn0 w w' :=
  slices_Equal_int_int.calls 1000002 A c a B d b _ w ha hc hb hd (equal_pure a b hl)

theorem equal_enters : Enters Try.prog 13 := enters_of Try.func13 (by kernel_rfl) rfl
theorem getD_eq_rows (F G : Rws) (i : Nat) (hi : i < F.length) (hG : F.length = G.length) : F.take (i + 1) = F.take i ++ [F.getD i []] := by
  rw [List.take_succ_eq_append_getElem hi]; simp [List.getD, List.getElem?_eq_getElem hi]

set_option maxHeartbeats 1000000 in
set_option maxRecDepth 100000 in
theorem eqf_calls (F G : Rws) (A B : Option Addr) (c d : Nat) (w : World) (hF : KdR.C w A F.length F) (hG : KdR.C w B G.length G) (hs : ∀ l ∈ F, l.length ≤ 1000000) :
    Calls Try.prog 14 #[.slice A F.length c, .slice B G.length d, .func (.func 13) #[] #[]] w fun e w' => e = .returned (.bool (decide (F = G))) ∧ Drawn0 w w' := by
  by_cases hl : F.length = G.length
  · have hb1 : ((F.length : Int) != (G.length : Int)) = false := by simp [hl]
    have hb2 : (F.length != G.length) = false := by simp [hl]
    have HF := Aside0.mk hF
    have HG := Aside0.mk hG
    have HL := Aside0.mk hl
    have HS := Aside0.mk hs
    have hE' : ∀ (args : Array Value) (w : World), (callFunc 13 args).run Try.prog w = .ok (.enter 13 args) w := equal_enters
    have hmx : F.length ≤ 9223372036854775806 ∨ True := .inr trivial
    have hFm := hF.2.1
    have hGl : (G.length : Int) = (F.length : Int) ∨ True := .inr trivial
    clear hF hG hl hs
    go_enter Try.func14, Try.ntmps14
    go_wp2
    go_loopw [17] (fun v wr => ∃ i : Nat, i ≤ F.length ∧ v = .int .i64 i ∧ Aside0 (F.take i = G.take i) ∧ Aside0 (Drawn0 w wr)) (fun v _ => F.length - (intOf v).toNat)
    case atStart => exact ⟨0, Nat.zero_le _, rfl, ⟨by simp⟩, ⟨Drawn0.refl _⟩⟩
    case round =>
      obtain ⟨i, hi, rfl, HT, HD⟩ := hrel
      by_cases hin : i < F.length
      · obtain ⟨ad, A', c', hA, hcell, hle, hC⟩ := row_at (Kd.C_below HF.out HD.out.below) i hin
        obtain ⟨bd, B', d', hB, hcellB, hleB, hCB⟩ := row_at (Kd.C_below HG.out HD.out.below) i (by have := HL.out; omega)
        subst hA hB
        have hin2 : (i : Int) < (G.length : Int) := by have := HL.out; omega
        have HC := Aside0.mk hC
        have HCB := Aside0.mk hCB
        clear hC hCB
        have HE := Aside0.mk (equal_calls (F.getD i []) (G.getD i []) A' B' c' d' wr HC.out hle HCB.out hleB (HS.out _ (by simp [List.getD, List.getElem?_eq_getElem hin])))
        have HT1 := Aside0.mk (getD_eq_rows F G i hin HL.out)
        have HT2 := Aside0.mk (getD_eq_rows G F i (by have := HL.out; omega) HL.out.symm)
        clear HC HCB
        obtain ⟨fi, hfi⟩ : ∃ fi, F.getD i [] = fi := ⟨_, rfl⟩
        obtain ⟨gi, hgi⟩ : ∃ gi, G.getD i [] = gi := ⟨_, rfl⟩
        rw [hfi] at hcell hle HT1
        rw [hgi] at hcellB hleB HT2
        rw [hfi, hgi] at HE
        have Hfi := Aside0.mk hfi
        have Hgi := Aside0.mk hgi
        clear hfi hgi
        have hin3 : (i : Int) < (F.length : Int) := by omega
        by_cases hd : fi = gi
        · have hdec : decide (fi = gi) = true := decide_eq_true hd
          rw [hdec] at HE
          have Hd := Aside0.mk hd
          clear hd hdec
          go_wp2_with fail
          refine HE.out.mono ?_
          rintro e w2 ⟨rfl, hD2⟩
          obtain ⟨m2, rfl⟩ := hD2
          go_wp2
          go_roundw
          case measure => simp [intOf]; omega
          case rel => exact ⟨i + 1, by omega, by go_num, ⟨by rw [HT1.out, HT2.out, HT.out, Hd.out]⟩, ⟨Drawn0.step HD.out _⟩⟩
        · have hdec : decide (fi = gi) = false := decide_eq_false hd
          rw [hdec] at HE
          have Hd := Aside0.mk hd
          clear hd hdec
          have hfin : decide (F = G) = false := decide_eq_false (fun e => Hd.out (by rw [← Hfi.out, ← Hgi.out, e]))
          replace hfin := Aside0.mk hfin
          go_wp2_with fail
          refine HE.out.mono ?_
          rintro e w2 ⟨rfl, hD2⟩
          obtain ⟨m2, rfl⟩ := hD2
          go_wp2
          go_ret
          exact ⟨by rw [hfin.out]; rfl, Drawn0.step HD.out _⟩
      · obtain rfl : i = F.length := by omega
        have hfin : decide (F = G) = true := decide_eq_true (by have h1 := HT.out; have h2 := HL.out; rw [List.take_length] at h1; rw [h1, List.take_of_length_le (by omega)])
        replace hfin := Aside0.mk hfin
        go_wp2
        go_ret
        exact ⟨by rw [hfin.out]; rfl, HD.out⟩
  · have hb1 : ((F.length : Int) != (G.length : Int)) = true := by simp; omega
    have hb2 : (F.length != G.length) = true := by simpa using hl
    have hfin : decide (F = G) = false := decide_eq_false (fun e => hl (by rw [e]))
    replace hfin := Aside0.mk hfin
    go_enter Try.func14, Try.ntmps14
    go_wp2
    go_ret
    exact ⟨by rw [hfin.out]; rfl, Drawn0.refl _⟩

end Go.Proofs.Ytblfoijalcmfkaa.Hand
