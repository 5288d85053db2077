/- The search for partners: the caller's function is called for all partners, in order, as long as it wants more. -/
import Derived.Test.YtknlablmkcabkaaDoorTz
import Derived.Test.YtknlablmkcabkaaDoorVis
import Derived.Test.YtknlablmkcabkaaDoorPl
import Derived.Shelf.Abstract
import Derived.StillTailTactics
import Derived.Deep.QuietTactic
namespace Go.Proofs.YtknlablmkcabkaaDoor
open Go.RowKit Go.Shelf Go.Proofs.YtknlablmkcabkaaDoorW.PrintWords Go.Proofs.YtknlablmkcabkaaDoorW.PrintLast Go.Proofs.YtknlablmkcabkaaDoorW.PrintMore Go.Proofs.YtknlablmkcabkaaDoorHnd QCanonConditions Til Pa
set_option linter.unusedVariables false
set_option linter.unusedSimpArgs false

/-- What the search finds in memory: its variables, the caller's function; that writes block B alone. -/
structure Box (n a g : Nat) (caps : Array Value) (Bn Bm Ba Bf B : Nat) (w : World) : Prop where
  cn : w.cell? ⟨Bn, 0, none⟩ = some (.int .i64 (n : Int))
  ca : w.cell? ⟨Ba, 0, none⟩ = some (.int .i64 (a : Int))
  cm : w.cell? ⟨Bm, 0, none⟩ = some (.func (.func g) #[] caps)
  cf : w.cell? ⟨Bf, 0, none⟩ = some (.func (.func 58) #[] #[.pointer (some ⟨Bn, 0, none⟩), .pointer (some ⟨Bm, 0, none⟩), .pointer (some ⟨Ba, 0, none⟩), .pointer (some ⟨Bf, 0, none⟩)])
  deb : Deb w
  hn : Bn ≠ B
  ha : Ba ≠ B
  hm : Bm ≠ B
  hf : Bf ≠ B
  hd : 1 ≠ B
theorem cell_kept {w w' : World} {B b i : Nat} {v : Value} (h : w.cell? ⟨b, i, none⟩ = some v) (hg : w.grownBy w' (some B)) (hb : b ≠ B) : w'.cell? ⟨b, i, none⟩ = some v :=
  (World.cell?_of_block (a := ⟨b, i, none⟩) (hg.block b (World.block_lt_of_cell? w _ h) (by simpa using hb))).trans h
theorem Box.kept {n a g : Nat} {caps : Array Value} {Bn Bm Ba Bf B : Nat} {w w' : World} (h : Box n a g caps Bn Bm Ba Bf B w) (hg : w.grownBy w' (some B)) : Box n a g caps Bn Bm Ba Bf B w' :=
  ⟨cell_kept h.cn hg h.hn, cell_kept h.ca hg h.ha, cell_kept h.cm hg h.hm, cell_kept h.cf hg h.hf, h.deb.kept (hg.block 1 h.deb.lt (by simpa using h.hd)), h.hn, h.ha, h.hm, h.hf, h.hd⟩
theorem gb_refl (w : World) (r : Option Nat) : w.grownBy w r := ⟨rfl, rfl, rfl, Nat.le_refl _, fun _ _ _ => rfl⟩
theorem gb_drewN (w : World) (m : Nat) (r : Option Nat) : w.grownBy (w.drewN m) r := ⟨rfl, rfl, rfl, Nat.le_refl _, fun _ _ _ => rfl⟩
theorem gb_trans {a b c : World} {r : Option Nat} (h : a.grownBy b r) (k : b.grownBy c r) : a.grownBy c r :=
  ⟨k.os.trans h.os, k.tape.trans h.tape, k.output.trans h.output, Nat.le_trans h.size k.size, fun i hi hne => (k.block i (Nat.lt_of_lt_of_le hi h.size) hne).trans (h.block i hi hne)⟩

theorem andNot_full (n f : Nat) (hn : n ≤ 24) (hf : f < 2 ^ n) : Go.bits .andNot .i64 ((2 ^ n - 1 : Nat) : Int) (f : Int) = ((2 ^ n - (f + 1) : Nat) : Int) := by
  have h2 : (2 : Nat) ^ n ≤ 2 ^ 24 := Nat.pow_le_pow_right (by decide) hn
  have h3 := Nat.two_pow_pos n
  have e1 : (2 ^ n - 1) % 2 ^ IntKind.i64.bits = 2 ^ n - 1 := Nat.mod_eq_of_lt (by show _ < 2 ^ 64; omega)
  have e2 : f % 2 ^ IntKind.i64.bits = f := Nat.mod_eq_of_lt (by show _ < 2 ^ 64; omega)
  have key : (2 ^ n - 1) &&& (2 ^ IntKind.i64.bits - 1 - f) = 2 ^ n - (f + 1) := by
    apply Nat.eq_of_testBit_eq
    intro j
    have hf64 : f < 2 ^ IntKind.i64.bits := by show _ < 2 ^ 64; omega
    rw [Nat.testBit_and, full_bit, Nat.sub_sub, Nat.add_comm 1 f, Nat.testBit_two_pow_sub_succ hf64, Nat.testBit_two_pow_sub_succ hf]
    by_cases hj : j < n
    · have : j < IntKind.i64.bits := by show j < 64; omega
      simp [hj, this]
    · simp [hj]
  simp only [Go.bits, BitVec.ofInt_natCast, BitVec.toNat_and, BitVec.toNat_not, BitVec.toNat_ofNat, e1, e2, key]
  rw [IntKind.wrap_i64]
  omega
theorem free_fr (n f k : Nat) (hf : f < 2 ^ n) (hne : f ≠ 2 ^ n - 1) (h1 : (2 ^ n - (f + 1)).testBit k = true) (h2 : ∀ j, j < k → (2 ^ n - (f + 1)).testBit j = false) : k = fr n f := by
  have hb : ∀ j, (2 ^ n - (f + 1)).testBit j = (decide (j < n) && !f.testBit j) := fun j => Nat.testBit_two_pow_sub_succ hf j
  obtain ⟨f1, f2, f3⟩ := fr_ok hf hne
  rw [hb] at h1
  simp only [Bool.and_eq_true, decide_eq_true_eq, Bool.not_eq_true'] at h1
  rcases Nat.lt_trichotomy k (fr n f) with h | h | h
  · rw [f3 k h] at h1; cases h1.2
  · exact h
  · have := h2 _ h
    rw [hb, decide_eq_true f1, f2] at this
    cases this

section
variable {σ : Type} (n a g : Nat) (caps : Array Value) (Bn Bm Ba Bf B : Nat) (step : σ → Nat → σ × Bool) (J : σ → World → Prop) (Ok : Nat → Prop)
/-- What the caller's function promises. -/
def More : Prop := ∀ s b w, J s w → Box n a g caps Bn Bm Ba Bf B w → Ok b → Calls Tryd.prog g (#[.int .i64 (b : Int)] ++ caps) w fun e w' => e = .returned (.bool (step s b).2) ∧ J (step s b).1 w' ∧ w.grownBy w' (some B)
/-- What the search promises, with k rounds. -/
def FillAt (k : Nat) : Prop := ∀ b f s w, J s w → Box n a g caps Bn Bm Ba Bf B w → b < 2 ^ n → f < 2 ^ n → nfree n f < k → (∀ v ∈ vis n a k b f, Ok v) →
  Calls Tryd.prog 58 (#[.int .i64 (b : Int), .int .i64 (f : Int)] ++ #[.pointer (some ⟨Bn, 0, none⟩), .pointer (some ⟨Bm, 0, none⟩), .pointer (some ⟨Ba, 0, none⟩), .pointer (some ⟨Bf, 0, none⟩)]) w
    fun e w' => e = .returned (.bool (runL step s (vis n a k b f)).2) ∧ J (runL step s (vis n a k b f)).1 w' ∧ w.grownBy w' (some B)
end

theorem fill_enters : Enters Tryd.prog 58 := enters_of Tryd.func58 (by kernel_rfl) rfl

set_option maxHeartbeats 2000000 in
set_option maxRecDepth 100000 in
theorem fill_end {σ : Type} (n a g : Nat) (caps : Array Value) (Bn Bm Ba Bf B : Nat) (step : σ → Nat → σ × Bool) (J : σ → World → Prop) (Ok : Nat → Prop) (hn : n ≤ 24) (hE : Enters Tryd.prog g)
    (hD : ∀ s w m, J s w → J s (w.drewN m)) (hM : More n a g caps Bn Bm Ba Bf B step J Ok) (k : Nat) (b : Nat) (s : σ) (w : World) (hJ : J s w) (hB : Box n a g caps Bn Bm Ba Bf B w) (hok : ∀ v ∈ vis n a (k + 1) b (2 ^ n - 1), Ok v) :
    Calls Tryd.prog 58 (#[.int .i64 (b : Int), .int .i64 ((2 ^ n - 1 : Nat) : Int)] ++ #[.pointer (some ⟨Bn, 0, none⟩), .pointer (some ⟨Bm, 0, none⟩), .pointer (some ⟨Ba, 0, none⟩), .pointer (some ⟨Bf, 0, none⟩)]) w
      fun e w' => e = .returned (.bool (runL step s (vis n a (k + 1) b (2 ^ n - 1))).2) ∧ J (runL step s (vis n a (k + 1) b (2 ^ n - 1))).1 w' ∧ w.grownBy w' (some B) := by
  have hE' : ∀ (args : Array Value) (w : World), (callFunc g args).run Tryd.prog w = .ok (.enter g args) w := hE
  rw [vis_full] at hok ⊢
  have hk := hok b (by simp)
  have e1 : runL step s [b] = ((step s b).1, (step s b).2) := by
    rw [runL]
    cases (step s b).2 <;> rfl
  rw [e1]
  have H1 := Aside0.mk (all_eq n hn)
  have HJ := Aside0.mk hJ
  have HB := Aside0.mk hB
  have HM := Aside0.mk hM
  have HK := Aside0.mk hk
  have hcn := hB.cn
  have hcm := hB.cm
  obtain ⟨F, hF⟩ : ∃ F : Int, ((2 ^ n - 1 : Nat) : Int) = F := ⟨_, rfl⟩
  rw [hF] at H1 ⊢
  replace hF := Aside0.mk hF
  clear hok hk e1 hJ hB hM
  go_enter Tryd.func58, Tryd.ntmps58
  go_wp2_with fail
  refine (canon_circle_all.calls _ _ _ H1.out).mono ?_
  rintro e w2 ⟨rfl, hD2⟩
  obtain ⟨m2, rfl⟩ := hD2
  go_wp2_with fail
  refine (HM.out s b _ (hD _ _ _ HJ.out) (HB.out.kept (gb_drewN _ _ _)) HK.out).mono ?_
  rintro e w3 ⟨rfl, hJ3, hg3⟩
  replace hJ3 := Aside0.mk hJ3
  replace hg3 := Aside0.mk hg3
  go_wp2
  go_ret
  exact ⟨rfl, hJ3.out, gb_trans (gb_drewN _ _ _) hg3.out⟩

theorem runL_step {σ : Type} (step : σ → Nat → σ × Bool) (s s' : σ) (l m : List Nat) (h : runL step s l = (s', true)) : runL step s (l ++ m) = runL step s' m := by
  rw [runL_app, h]; rfl
theorem runL_stop {σ : Type} (step : σ → Nat → σ × Bool) (s : σ) (l m : List Nat) (h : (runL step s l).2 = false) : runL step s (l ++ m) = runL step s l := by
  rw [runL_app, h]; rfl
theorem mod_int (n x z : Nat) (hn : n ≤ 24) (hx : x < n) (hz : z < n) : IntKind.i64.wrap ((z : Int) - x) = (z : Int) - x ∧ IntKind.i64.wrap ((z : Int) - x + n) = (z : Int) - x + n ∧ Int.tmod ((z : Int) - x + n) n = (((z + n - x) % n : Nat) : Int) := by
  refine ⟨by rw [IntKind.wrap_i64]; omega, by rw [IntKind.wrap_i64]; omega, ?_⟩
  rw [show (z : Int) - x + n = ((z + n - x : Nat) : Int) from by omega]
  rfl

set_option maxHeartbeats 2000000 in
set_option maxRecDepth 100000 in
theorem fill_calls {σ : Type} (n a g : Nat) (caps : Array Value) (Bn Bm Ba Bf B : Nat) (step : σ → Nat → σ × Bool) (J : σ → World → Prop) (Ok : Nat → Prop) (h2 : 2 ≤ n) (hn : n ≤ 24) (ha : a < 2 ^ n) (hE : Enters Tryd.prog g)
    (hD : ∀ s w m, J s w → J s (w.drewN m)) (hM : More n a g caps Bn Bm Ba Bf B step J Ok) (k : Nat) (ih : FillAt n a g caps Bn Bm Ba Bf B step J Ok k) (b f : Nat) (s : σ) (w : World) (hJ : J s w) (hB : Box n a g caps Bn Bm Ba Bf B w)
    (hb : b < 2 ^ n) (hf : f < 2 ^ n) (hne : f ≠ 2 ^ n - 1) (hfr : nfree n f < k + 1) (hok : ∀ v ∈ vis n a (k + 1) b f, Ok v) :
    Calls Tryd.prog 58 (#[.int .i64 (b : Int), .int .i64 (f : Int)] ++ #[.pointer (some ⟨Bn, 0, none⟩), .pointer (some ⟨Bm, 0, none⟩), .pointer (some ⟨Ba, 0, none⟩), .pointer (some ⟨Bf, 0, none⟩)]) w
      fun e w' => e = .returned (.bool (runL step s (vis n a (k + 1) b f)).2) ∧ J (runL step s (vis n a (k + 1) b f)).1 w' ∧ w.grownBy w' (some B) := by
  have hE' : ∀ (args : Array Value) (w : World), (callFunc 58 args).run Tryd.prog w = .ok (.enter 58 args) w := fill_enters
  rw [vis_succ _ _ _ _ _ hne] at hok ⊢
  have h24 : (2 : Nat) ^ n ≤ 2 ^ 24 := Nat.pow_le_pow_right (by decide) hn
  have hpn := Nat.two_pow_pos n
  have H1 := Aside0.mk (all_eq n hn)
  have HJ := Aside0.mk hJ
  have HB := Aside0.mk hB
  have HI := Aside0.mk ih
  have HK := Aside0.mk hok
  have hcn := hB.cn
  have hca := hB.ca
  have hcf := hB.cf
  have hdeb := Aside0.mk hB.deb
  have q1 : (((f : Int) == ((2 ^ n - 1 : Nat) : Int))) = false := by rw [beq_eq_false_iff_ne]; omega
  have q2 := andNot_full n f hn hf
  have q3 : IntKind.u64.wrap ((2 ^ n - (f + 1) : Nat) : Int) = ((2 ^ n - (f + 1) : Nat) : Int) := wrapu _ (by omega) (by omega)
  obtain ⟨T, hT⟩ : ∃ T : Nat, 2 ^ n - (f + 1) = T := ⟨_, rfl⟩
  have hT0 : 0 < T := by omega
  have hT1 : T < 16777216 := by omega
  have HF := Aside0.mk (fun k => free_fr n f k hf hne)
  rw [hT] at q2 q3 HF
  obtain ⟨f1, f2, f3⟩ := fr_ok hf hne
  replace f2 := Aside0.mk f2
  clear f3
  obtain ⟨F, hF⟩ : ∃ F : Int, ((2 ^ n - 1 : Nat) : Int) = F := ⟨_, rfl⟩
  rw [hF] at H1 q1 q2
  replace hF := Aside0.mk hF
  replace hT := Aside0.mk hT
  replace hne := Aside0.mk hne
  replace hM := Aside0.mk hM
  replace hD := Aside0.mk hD
  clear hok hJ hB ih
  go_enter Tryd.func58, Tryd.ntmps58
  go_wp2_with fail
  refine (canon_circle_all.calls _ _ _ H1.out).mono ?_
  rintro e w2 ⟨rfl, hD2⟩
  obtain ⟨m2, rfl⟩ := hD2
  go_wp2_with fail
  refine (canon_circle_all.calls _ _ _ H1.out).mono ?_
  rintro e w2 ⟨rfl, hD2⟩
  obtain ⟨m3, rfl⟩ := hD2
  go_wp2_with fail
  refine (tz_calls T hT0 hT1 _ (by exact hdeb.out.kept rfl)).mono ?_
  rintro e w2 ⟨z, rfl, rfl, hz1, hz2, hz3⟩
  obtain rfl := HF.out z hz2 hz3
  clear hz1 hz2 hz3
  obtain ⟨z, hz⟩ : ∃ z, fr n f = z := ⟨_, rfl⟩
  rw [hz] at f1 f2 ⊢
  replace hz := Aside0.mk hz
  go_wp2
  go_loopw [27] (fun v wr => ∃ (x : Nat) (s' : σ), v = .int .i64 x ∧ x ≤ n ∧ Aside0 (runL step s ((List.range x).flatMap (br n a k b f)) = (s', true)) ∧ Aside0 (J s' wr) ∧ Aside0 (w.grownBy wr (some B))) (fun v _ => (n - intOf v).toNat)
  case atStart => exact ⟨0, s, rfl, by omega, ⟨rfl⟩, ⟨hD.out _ _ _ HJ.out⟩, ⟨gb_drewN _ _ _⟩⟩
  case round =>
    obtain ⟨x, s', rfl, hx, hR, hJ', hG⟩ := hrel
    have hBr := HB.out.kept hG.out
    have kcn := hBr.cn
    have kca := hBr.ca
    have kcf := hBr.cf
    have HBr := Aside0.mk hBr
    clear hBr hcn hca hcf
    by_cases hxn : x = n
    · subst hxn
      go_wp2
      go_ret
      rw [hR.out]
      exact ⟨rfl, hJ'.out, hG.out⟩
    · have hx1 : (x : Int) < (n : Int) := by omega
      have ex := bit_int a x (p24 hn ha) (by omega)
      unfold shr at ex
      rw [Int.toNat_natCast, Nat.min_eq_left (show x ≤ IntKind.i64.bits from by show x ≤ 64; omega)] at ex
      have hnext : ∀ s2, runL step s' (br n a k b f x) = (s2, true) → runL step s ((List.range (x + 1)).flatMap (br n a k b f)) = (s2, true) := by
        intro s2 h
        rw [List.range_succ, List.flatMap_append, runL_step _ _ _ _ _ hR.out]
        simpa using h
      replace hnext := Aside0.mk hnext
      cases hbx : a.testBit x with
      | false =>
        rw [hbx] at ex
        replace ex : Go.bits .and .i64 ((a : Int) / 2 ^ x) 1 = 0 := ex
        replace hbx := Aside0.mk hbx
        go_wp2
        go_roundw
        case measure => simp [intOf]; omega
        case rel => exact ⟨x + 1, s', by go_num, by omega, ⟨hnext.out s' (by unfold br; rw [if_neg (by rw [hbx.out]; simp)]; rfl)⟩, hJ', hG⟩
      | true =>
        rw [hbx] at ex
        replace ex : Go.bits .and .i64 ((a : Int) / 2 ^ x) 1 = 1 := ex
        replace hbx := Aside0.mk hbx
        obtain ⟨r1, r2, r3⟩ := mod_int n x z hn (by omega) f1
        have hyn : (z + n - x) % n < n := Nat.mod_lt _ (by omega)
        have hbr : br n a k b f x = if rot n a ((z + n - x) % n) &&& f = 0 then vis n a k (b ||| 1 <<< ((z + n - x) % n)) (f ||| rot n a ((z + n - x) % n)) else [] := by
          unfold br
          rw [hz.out]
          by_cases h : rot n a ((z + n - x) % n) &&& f = 0
          · rw [if_pos ⟨hbx.out, h⟩, if_pos h]
          · rw [if_neg (fun hh => h hh.2), if_neg h]
        have hhit := hits ha f1 (show x < n by omega) hbx.out
        obtain ⟨y, hy⟩ : ∃ y, (z + n - x) % n = y := ⟨_, rfl⟩
        rw [hy] at r3 hyn hbr hhit
        replace hy := Aside0.mk hy
        have hmv := Aside0.mk (move_eq n a y hn ha (by omega))
        have hrl := rot_lt n a y
        obtain ⟨R, hRr⟩ : ∃ R, rot n a y = R := ⟨_, rfl⟩
        rw [hRr] at hmv hrl hbr hhit
        replace hRr := Aside0.mk hRr
        have hnz : ¬ n = 0 := by omega
        have e3 := and_nat R f (by omega) (by omega)
        by_cases h0 : R &&& f = 0
        · rw [h0] at e3
          rw [if_pos h0] at hbr
          replace hbr := Aside0.mk hbr
          replace e3 : Go.bits .and .i64 (R : Int) (f : Int) = 0 := e3
          have hor := or_nat f R (by omega) (by omega)
          have hshl : IntKind.i64.wrap (2 ^ y) = ((1 <<< y : Nat) : Int) := by
            have := (shl_nat 1 y (by decide) (by omega)).1
            unfold shl at this
            rw [Int.toNat_natCast, Nat.min_eq_left (show y ≤ IntKind.i64.bits from by show y ≤ 64; omega)] at this
            rw [← this]
            congr 1
            simp
          have hs1 : 1 <<< y < 2 ^ n := by rw [Nat.one_shiftLeft]; exact Nat.pow_lt_pow_right (by decide) hyn
          obtain ⟨Y, hY⟩ : ∃ Y, 1 <<< y = Y := ⟨_, rfl⟩
          rw [hY] at hshl hs1 hbr
          replace hY := Aside0.mk hY
          have hor2 := or_nat b Y (by omega) (by omega)
          go_wp2_with fail
          refine (canon_circle_move.calls _ _ _ _ _ hmv.out).mono ?_
          rintro e w4 ⟨rfl, hD4⟩
          obtain ⟨m4, rfl⟩ := hD4
          have HG4 := Aside0.mk (gb_trans hG.out (gb_drewN wr m4 (some B)))
          have HJ4 := Aside0.mk (hD.out _ _ m4 hJ'.out)
          obtain ⟨W4, hW4⟩ : ∃ W4, wr.drewN m4 = W4 := ⟨_, rfl⟩
          rw [hW4] at HG4 HJ4 ⊢
          clear hW4 kcn kca kcf HBr hJ' hG
          have hB4 := HB.out.kept HG4.out
          have kcf := hB4.cf
          replace hB4 := Aside0.mk hB4
          go_wp2
          go_still_tail 13, (by kernel_rfl)
          change wpList _ _ _ _ _ W4.drew
          have hrec := HI.out (b ||| Y) (f ||| R) s' W4.drew (by exact hD.out s' W4 1 HJ4.out) (by exact hB4.out.kept (gb_drewN W4 1 _)) (Nat.or_lt_two_pow hb hs1) (Nat.or_lt_two_pow hf hrl) (by have := nfree_lt n f R z f1 f2.out hhit; omega) (fun v hv => HK.out v (List.mem_flatMap.mpr ⟨x, List.mem_range.mpr (by omega), by rw [hbr.out]; exact hv⟩))
          obtain ⟨V, hV⟩ : ∃ V, vis n a k (b ||| Y) (f ||| R) = V := ⟨_, rfl⟩
          rw [hV] at hrec
          have hbv : br n a k b f x = V := by rw [hbr.out]; exact hV
          replace hbv := Aside0.mk hbv
          clear hV
          obtain ⟨s2, r2, hrr⟩ : ∃ s2 r2, runL step s' V = (s2, r2) := ⟨_, _, rfl⟩
          rw [hrr] at hrec
          replace hrr := Aside0.mk hrr
          replace hrec := Aside0.mk hrec
          clear hhit h0 e3 hs1 hrl hnz r1 r3 ex hx1 h24 hpn q3 q2 q1
          go_guarded
          unfold Oper.wp
          go_simp
          refine hrec.out.mono ?_
          rintro e w5 ⟨rfl, hJ5, hg5⟩
          have hg6 : w.grownBy w5 (some B) := gb_trans HG4.out (gb_trans (gb_drewN W4 1 _) hg5)
          clear hg5 hrec
          replace hJ5 := Aside0.mk hJ5
          replace hg6 := Aside0.mk hg6
          cases r2 with
          | true =>
            go_wp2
            go_roundw
            case measure => simp [intOf]; omega
            case rel => exact ⟨x + 1, s2, by go_num, by omega, ⟨hnext.out s2 (by rw [hbv.out]; exact hrr.out)⟩, hJ5, hg6⟩
          | false =>
            go_wp2
            go_ret
            obtain ⟨rest, hsp⟩ := flat_split (br n a k b f) n (n - (x + 1)) (x + 1) (by omega)
            have hfin : runL step s ((List.range n).flatMap (br n a k b f)) = (s2, false) := by
              have e1 : runL step s ((List.range (x + 1)).flatMap (br n a k b f)) = (s2, false) := by
                rw [List.range_succ, List.flatMap_append, runL_step _ _ _ _ _ hR.out]
                simpa [hbv.out] using hrr.out
              rw [hsp, runL_stop _ _ _ _ (by rw [e1]), e1]
            rw [hfin]
            exact ⟨rfl, hJ5.out, hg6.out⟩
        · rw [if_neg h0] at hbr
          replace hbr := Aside0.mk hbr
          have e4 : (Go.bits .and .i64 (R : Int) (f : Int) == 0) = false := by rw [e3, beq_eq_false_iff_ne]; omega
          clear e3
          go_wp2_with fail
          refine (canon_circle_move.calls _ _ _ _ _ hmv.out).mono ?_
          rintro e w4 ⟨rfl, hD4⟩
          obtain ⟨m4, rfl⟩ := hD4
          go_wp2
          go_quiet (fail)
          go_wp2
          go_roundw
          case measure => simp [intOf]; omega
          case rel => exact ⟨x + 1, s', by go_num, by omega, ⟨hnext.out s' (by rw [hbr.out]; rfl)⟩, ⟨hD.out _ _ _ hJ'.out⟩, ⟨gb_trans hG.out (gb_drewN _ _ _)⟩⟩
theorem fill_at {σ : Type} (n a g : Nat) (caps : Array Value) (Bn Bm Ba Bf B : Nat) (step : σ → Nat → σ × Bool) (J : σ → World → Prop) (Ok : Nat → Prop) (h2 : 2 ≤ n) (hn : n ≤ 24) (ha : a < 2 ^ n) (hE : Enters Tryd.prog g)
    (hD : ∀ s w m, J s w → J s (w.drewN m)) (hM : More n a g caps Bn Bm Ba Bf B step J Ok) (k : Nat) : FillAt n a g caps Bn Bm Ba Bf B step J Ok k := by
  induction k with
  | zero => intro b f s w _ _ _ _ h; omega
  | succ k ih =>
    intro b f s w hJ hB hb hf hfr hok
    by_cases hne : f = 2 ^ n - 1
    · subst hne
      exact fill_end n a g caps Bn Bm Ba Bf B step J Ok hn hE hD hM k b s w hJ hB hok
    · exact fill_calls n a g caps Bn Bm Ba Bf B step J Ok h2 hn ha hE hD hM k ih b f s w hJ hB hb hf hne hfr hok

set_option maxHeartbeats 1000000 in
set_option maxRecDepth 100000 in
/-- The search from its beginning, in a world in which block B is the caller's. -/
theorem partners_calls {σ : Type} (n a g : Nat) (caps : Array Value) (B : Nat) (step : σ → Nat → σ × Bool) (J : σ → World → Prop) (Ok : Nat → Prop) (h2 : 2 ≤ n) (hn : n ≤ 24) (ha : a < 2 ^ n) (hE : Enters Tryd.prog g)
    (hD : ∀ s w m, J s w → J s (w.drewN m)) (hA : ∀ s w o, J s w → J s (w.alloc o)) (hok : ∀ v ∈ parts n a, Ok v) (s : σ) (w : World) (hJ : J s w) (hT : Deb w) (hB1 : B < w.heap.size) (hB2 : 1 ≠ B)
    (hM : ∀ Bn Bm Ba Bf, More n a g caps Bn Bm Ba Bf B step J Ok) :
    Calls Tryd.prog 29 #[.int .i64 (n : Int), .int .i64 (a : Int), .func (.func g) #[] caps] w fun e w' => e = .returned (.tuple #[]) ∧ J (runL step s (parts n a)).1 w' ∧ w.grownBy w' (some B) := by
  have hE' : ∀ (args : Array Value) (w : World), (callFunc 58 args).run Tryd.prog w = .ok (.enter 58 args) w := fill_enters
  have hmf : ∀ (fn : Fn) (first cap : Array Value) (w : World), (Instr.makeFunc fn first cap).run Tryd.prog w = .ok (.func fn first cap) w := fun _ _ _ _ => rfl
  have hsf : ∀ (a : Addr) (f : Fn) (fs cs : Array Value) (m : Mode) (w : World), (store a (.func f fs cs) m).run Tryd.prog w = stored Tryd.prog w a (.func f fs cs) m := fun a f fs cs m w => run_store Tryd.prog w a _ m rfl
  replace hJ := Aside0.mk hJ
  replace hT := Aside0.mk hT
  replace hok := Aside0.mk hok
  replace hM := Aside0.mk hM
  replace hD := Aside0.mk hD
  replace hA := Aside0.mk hA
  go_enter Tryd.func29, Tryd.ntmps29
  go_wp2_with fail
  obtain ⟨W, hW⟩ : ∃ W : World, ((((w.alloc (Obj.cells #[Value.int IntKind.i64 ↑n] 45)).alloc (Obj.cells #[Value.int IntKind.i64 ↑a] 3)).alloc (Obj.cells #[Value.func (Fn.func g) #[] caps] 48)).alloc (Obj.cells #[Value.func (Fn.func 58) #[] #[Value.pointer (some ⟨w.heap.size, 0, none⟩), Value.pointer (some ⟨w.heap.size + 1 + 1, 0, none⟩), Value.pointer (some ⟨w.heap.size + 1, 0, none⟩), Value.pointer (some ⟨w.heap.size + 1 + 1 + 1, 0, none⟩)]] 22)) = W := ⟨_, rfl⟩
  have hg : w.grownBy W (some B) := by
    rw [← hW]
    exact gb_trans (gb_trans (gb_trans (World.grownBy_alloc _ _ _) (World.grownBy_alloc _ _ _)) (World.grownBy_alloc _ _ _)) (World.grownBy_alloc _ _ _)
  have hJW : J s W := by rw [← hW]; exact hA.out _ _ _ (hA.out _ _ _ (hA.out _ _ _ (hA.out _ _ _ hJ.out)))
  have s1 : ∀ (w : World) (o : Obj), (w.alloc o).heap.size = w.heap.size + 1 := fun w o => World.size_alloc w o
  have hbox : Box n a g caps w.heap.size (w.heap.size + 1 + 1) (w.heap.size + 1) (w.heap.size + 1 + 1 + 1) B W := by
    refine ⟨?_, ?_, ?_, ?_, hT.out.kept (hg.block 1 hT.out.lt (by simpa using hB2)), by omega, by omega, by omega, by omega, hB2⟩
    · rw [← hW]
      exact (blk_cell (blk_alloc (blk_alloc (blk_alloc (blk_new w _) _) _) _) 0).trans rfl
    · rw [← hW]
      have := blk_cell (blk_alloc (blk_alloc (blk_new (w.alloc (Obj.cells #[Value.int IntKind.i64 ↑n] 45)) (Obj.cells #[Value.int IntKind.i64 ↑a] 3)) (Obj.cells #[Value.func (Fn.func g) #[] caps] 48)) (Obj.cells #[Value.func (Fn.func 58) #[] #[Value.pointer (some ⟨w.heap.size, 0, none⟩), Value.pointer (some ⟨w.heap.size + 1 + 1, 0, none⟩), Value.pointer (some ⟨w.heap.size + 1, 0, none⟩), Value.pointer (some ⟨w.heap.size + 1 + 1 + 1, 0, none⟩)]] 22)) 0
      rw [s1] at this
      exact this.trans rfl
    · rw [← hW]
      have := blk_cell (blk_alloc (blk_new ((w.alloc (Obj.cells #[Value.int IntKind.i64 ↑n] 45)).alloc (Obj.cells #[Value.int IntKind.i64 ↑a] 3)) (Obj.cells #[Value.func (Fn.func g) #[] caps] 48)) (Obj.cells #[Value.func (Fn.func 58) #[] #[Value.pointer (some ⟨w.heap.size, 0, none⟩), Value.pointer (some ⟨w.heap.size + 1 + 1, 0, none⟩), Value.pointer (some ⟨w.heap.size + 1, 0, none⟩), Value.pointer (some ⟨w.heap.size + 1 + 1 + 1, 0, none⟩)]] 22)) 0
      rw [s1, s1] at this
      exact this.trans rfl
    · rw [← hW]
      have := blk_cell (blk_new (((w.alloc (Obj.cells #[Value.int IntKind.i64 ↑n] 45)).alloc (Obj.cells #[Value.int IntKind.i64 ↑a] 3)).alloc (Obj.cells #[Value.func (Fn.func g) #[] caps] 48)) (Obj.cells #[Value.func (Fn.func 58) #[] #[Value.pointer (some ⟨w.heap.size, 0, none⟩), Value.pointer (some ⟨w.heap.size + 1 + 1, 0, none⟩), Value.pointer (some ⟨w.heap.size + 1, 0, none⟩), Value.pointer (some ⟨w.heap.size + 1 + 1 + 1, 0, none⟩)]] 22)) 0
      rw [s1, s1, s1] at this
      exact this.trans rfl
  have hrun := fill_at n a g caps _ _ _ _ B step J Ok h2 hn ha hE hD.out (hM.out _ _ _ _) (n + 1) 1 a s W hJW hbox (Nat.one_lt_two_pow (by omega)) ha (by have := nfree_le n a; omega) hok.out
  replace hrun := Aside0.mk hrun
  replace hg := Aside0.mk hg
  rw [hW]
  clear hW hJW hbox s1
  refine hrun.out.mono ?_
  rintro e w2 ⟨rfl, hJ2, hg2⟩
  have hg3 := Aside0.mk (gb_trans hg.out hg2)
  replace hJ2 := Aside0.mk hJ2
  clear hg2 hrun
  go_wp2
  go_end0
  exact ⟨rfl, hJ2.out, hg3.out⟩
end Go.Proofs.YtknlablmkcabkaaDoor
