/- The walk of the statement CanonTurns. -/
import Derived.Test.YtknlablmkcabkaaDoorPar
import Derived.Test.YtknlablmkcabkaaDoorTim
import Derived.StillTailTactics
import Derived.Deep.RegionHeld3
import Derived.BigQuiet
namespace Go.Proofs.YtknlablmkcabkaaDoor.Tw
open Go.RowKit Go.Shelf Go.Proofs.YtknlablmkcabkaaDoorW.PrintWords Go.Proofs.YtknlablmkcabkaaDoorW.PrintLast Go.Proofs.YtknlablmkcabkaaDoorW.PrintMore Go.Proofs.YtknlablmkcabkaaDoorHnd QCanonConditions Til Pa
set_option linter.unusedVariables false
set_option linter.unusedSimpArgs false

theorem awake_ok : sackbutlaw02_awake.f 100 = some true := by decide +kernel
theorem times_enters : Enters Tryd.prog 11 := enters_of Tryd.func11 (by kernel_rfl) rfl
set_option maxHeartbeats 1000000 in
set_option maxRecDepth 100000 in
theorem times_calls (n a m Bn Ba : Nat) (h2 : 2 ≤ n) (hn : n ≤ 24) (ha : a < 2 ^ n) (hm : m ≤ 24) (w : World) (hcn : w.cell? ⟨Bn, 0, none⟩ = some (.int .i64 (n : Int))) (hca : w.cell? ⟨Ba, 0, none⟩ = some (.int .i64 (a : Int))) :
    Calls Tryd.prog 11 (#[.int .i64 (m : Int)] ++ #[.pointer (some ⟨Bn, 0, none⟩), .pointer (some ⟨Ba, 0, none⟩)]) w fun e w' => e = .returned (.int .i64 ((timF n a m : Nat) : Int)) ∧ w' = w := by
  go_enter Tryd.func11, Tryd.ntmps11
  go_wp2
  go_loopw [5, 8] (fun v v' wr => ∃ x : Nat, v = .int .i64 ((tim n a m x : Nat) : Int) ∧ v' = .int .i64 (x : Int) ∧ x ≤ n ∧ wr = w) (fun _ v _ => (n - intOf v).toNat)
  case atStart => exact ⟨0, rfl, rfl, by omega, rfl⟩
  case round =>
    obtain ⟨x, rfl, rfl, hx, rfl⟩ := hrel
    by_cases hxn : x = n
    · have hx1 : ¬ (x : Int) < (n : Int) := by omega
      go_wp2
      go_ret
      exact ⟨rfl, rfl⟩
    · have hx1 : (x : Int) < (n : Int) := by omega
      have ex := bit_int a x (p24 hn ha) (by omega)
      unfold shr at ex
      rw [Int.toNat_natCast, Nat.min_eq_left (show x ≤ IntKind.i64.bits from by show x ≤ 64; omega)] at ex
      have ht : tim n a m (x + 1) = if a.testBit x = true then tim n a m x ||| 1 <<< (m * x % n) else tim n a m x := rfl
      have hl := tim_lt n a m (by omega) x
      obtain ⟨T, hT⟩ : ∃ T, tim n a m x = T := ⟨_, rfl⟩
      rw [hT] at ht hl ⊢
      replace hT := Aside0.mk hT
      cases hbx : a.testBit x with
      | false =>
        rw [hbx] at ex
        rw [hbx, if_neg (by decide)] at ht
        replace ex : Go.bits .and .i64 ((a : Int) / 2 ^ x) 1 = 0 := ex
        replace hbx := Aside0.mk hbx
        replace ht := Aside0.mk ht
        go_wp2
        go_roundw
        case measure => simp [intOf]; omega
        case rel => exact ⟨x + 1, by rw [ht.out], by go_num, by omega, trivial⟩
      | true =>
        rw [hbx] at ex
        rw [hbx, if_pos rfl] at ht
        replace ex : Go.bits .and .i64 ((a : Int) / 2 ^ x) 1 = 1 := ex
        replace hbx := Aside0.mk hbx
        have hmx : m * x ≤ 24 * 24 := Nat.mul_le_mul hm (by omega)
        have q1 : IntKind.i64.wrap ((m : Int) * (x : Int)) = ((m * x : Nat) : Int) := by
          rw [← Int.natCast_mul, IntKind.wrap_i64]
          omega
        have q2 : Int.tmod ((m * x : Nat) : Int) (n : Int) = ((m * x % n : Nat) : Int) := rfl
        have hy : m * x % n < n := Nat.mod_lt _ (by omega)
        obtain ⟨Z, hZ⟩ : ∃ Z, m * x = Z := ⟨_, rfl⟩
        rw [hZ] at q1 q2 hy ht
        obtain ⟨y, hyy⟩ : ∃ y, Z % n = y := ⟨_, rfl⟩
        rw [hyy] at q2 hy ht
        replace hZ := Aside0.mk hZ
        replace hyy := Aside0.mk hyy
        have hshl : IntKind.i64.wrap (2 ^ y) = ((1 <<< y : Nat) : Int) := by
          have := (shl_nat 1 y (by decide) (by omega)).1
          unfold shl at this
          rw [Int.toNat_natCast, Nat.min_eq_left (show y ≤ IntKind.i64.bits from by show y ≤ 64; omega)] at this
          rw [← this]
          congr 1
          simp
        have hs1 : 1 <<< y < 2 ^ n := by rw [Nat.one_shiftLeft]; exact Nat.pow_lt_pow_right (by decide) hy
        have h24 := p24 hn hl
        have h25 := p24 hn hs1
        obtain ⟨Y, hY⟩ : ∃ Y, 1 <<< y = Y := ⟨_, rfl⟩
        rw [hY] at hshl hs1 ht h25
        replace hY := Aside0.mk hY
        have hor := or_nat T Y (by omega) (by omega)
        have hnz : ¬ n = 0 := by omega
        replace ht := Aside0.mk ht
        clear hmx hs1 hl h24 h25
        go_wp2
        go_roundw
        case measure => simp [intOf]; omega
        case rel => exact ⟨x + 1, by rw [ht.out], by go_num, by omega, trivial⟩

theorem lstE (n a : Nat) (h2 : 2 ≤ n) (ha : a < 2 ^ n) (ha0 : a.testBit 0 = true) : (leastE n a = 4 ∧ (parts n a).length = 0) ∨ (leastE n a = 0 ∧ 0 < (parts n a).length) := by
  unfold leastE
  rcases hp : parts n a with _ | ⟨b, l⟩
  · left; rw [least_none hp, if_pos rfl]; exact ⟨rfl, rfl⟩
  · right
    obtain ⟨b', _, hl, hb0, _⟩ := least_some h2 ha ha0 (by rw [hp]; simp)
    rw [hl, if_neg (by omega)]
    exact ⟨rfl, by simp⟩
theorem valid2 (n a b : Nat) (h2 : 2 ≤ n) (hn : n ≤ 24) (ha : badR (n : Int) (a : Int) = false) (hb : badR (n : Int) (b : Int) = false) : canon_circle_valid.f (n : Int) [(a : Int), (b : Int)] = some true := by
  rw [valid_eq _ _ (by simp)]
  simp [ha, hb]
  omega
/-- What Tiles tells of a rhythm and a number. -/
theorem tiles_cases (n a : Nat) (b : Int) (h2 : 2 ≤ n) (hn : n ≤ 24) (ha : a < 2 ^ n) (hva : badR (n : Int) (a : Int) = false) :
    (∃ k, canon_Tiles.f k (n : Int) (a : Int) b = some (false, 2)) ∨ (∃ k, canon_Tiles.f k (n : Int) (a : Int) b = some (false, 0)) ∨ (∃ (k x : Nat), b = x ∧ x < 2 ^ n ∧ x.testBit 0 = true ∧ badR (n : Int) (x : Int) = false ∧ Tile n a x ∧ canon_Tiles.f k (n : Int) (a : Int) b = some (true, 0)) := by
  rcases rhythm_cases (n : Int) b with ⟨h1, h3⟩ | ⟨h1, h3, m', x, hm, rfl, h5, h6, h7, h8⟩
  · left
    refine ⟨0, ?_⟩
    unfold canon_Tiles.f
    rw [valid_eq _ _ (by simp)]
    have : badR (n : Int) b = true := by
      rw [decide_eq_true (show (2 : Int) ≤ n by omega), decide_eq_true (show (n : Int) ≤ 24 by omega)] at h3
      simpa using h3
    simp [this]
  · obtain rfl : n = m' := by omega
    obtain ⟨r, hr, hiff⟩ := tiles_tot n a x h2 hn ha h7
    obtain ⟨k, hr⟩ := hr.exists_
    have hv := valid2 n a x h2 hn hva h3
    have hk : canon_Tiles.f k (n : Int) (a : Int) (x : Int) = some (r, 0) := by
      unfold canon_Tiles.f
      rw [hv, Option.bind_some, if_pos rfl, hr]
      rfl
    cases r with
    | false => exact .inr (.inl ⟨k, hk⟩)
    | true => exact .inr (.inr ⟨k, x, rfl, h7, h8, h3, hiff.mp rfl, hk⟩)
theorem badR_of (n b : Nat) (h2 : 2 ≤ n) (hn : n ≤ 24) (hb : b < 2 ^ n) (hb0 : b.testBit 0 = true) : badR (n : Int) (b : Int) = false := by
  rcases rhythm_cases (n : Int) (b : Int) with ⟨h1, h3⟩ | ⟨_, h3, _⟩
  · exfalso
    obtain ⟨e1, e2⟩ := shl_at n hn
    have h24 := p24 hn hb
    have hbb : Go.bits .and .i64 (b : Int) 1 = 1 := by
      rw [and_one _ (by omega) (by omega)]
      have h0 : b % 2 = 1 := by simpa [Nat.testBit_zero] using hb0
      omega
    unfold badR at h3
    rw [Int.toNat_natCast, e1, hbb, decide_eq_true (show (2 : Int) ≤ n by omega), decide_eq_true (show (n : Int) ≤ 24 by omega), decide_eq_false (show ¬ (b : Int) < 0 by omega), decide_eq_false (show ¬ ((2 ^ n : Nat) : Int) ≤ b by omega)] at h3
    cases h3
  · exact h3
theorem valid1 (m x : Nat) (h3 : 2 ≤ m) (h4 : m ≤ 24) (h2 : badR (m : Int) (x : Int) = false) : canon_circle_valid.f (m : Int) [(x : Int)] = some true := by
  rw [valid_eq _ _ (by simp)]
  simp [h2]
  omega
/-- The number of one's own as the program takes it. -/
theorem own_mod (m : Int) (n : Nat) (h2 : 2 ≤ n) (hn : n ≤ 24) : ∃ M : Nat, M < n ∧ IntKind.u64.wrap (n : Int) = n ∧ Int.tmod (IntKind.u64.wrap m) (n : Int) = (M : Int) := by
  have h0 : 0 ≤ IntKind.u64.wrap m := by
    simp only [IntKind.wrap, IntKind.bits, IntKind.signed]
    simp
    omega
  obtain ⟨U, hU⟩ : ∃ U : Nat, IntKind.u64.wrap m = U := ⟨(IntKind.u64.wrap m).toNat, by omega⟩
  refine ⟨U % n, Nat.mod_lt _ (by omega), wrapu _ (by omega) (by omega), ?_⟩
  rw [hU]
  rfl

theorem at_tiles (n a b : Nat) (h2 : 2 ≤ n) (hn : n ≤ 24) (ha : a < 2 ^ n) (ha0 : a.testBit 0 = true) (hb : b < 2 ^ n) (hb0 : b.testBit 0 = true) (hT : Tile n a b) : ∃ k, canon_Tiles.f k (n : Int) (a : Int) (b : Int) = some (true, 0) := by
  obtain ⟨r, hr, hiff⟩ := tiles_tot n a b h2 hn ha hb
  have := hiff.mpr hT
  subst this
  obtain ⟨k, h⟩ := hr.exists_
  refine ⟨k, ?_⟩
  unfold canon_Tiles.f
  rw [valid2 n a b h2 hn (badR_of n a h2 hn ha ha0) (badR_of n b h2 hn hb hb0), Option.bind_some, if_pos rfl, h]
  rfl
theorem S_next {w w1 w2 : World} {n a : Nat} (hb : Below w1.heap.size w1 w2) (h : w1.cell? ⟨w.heap.size, 0, none⟩ = some (.int .i64 (n : Int)) ∧ w1.cell? ⟨w.heap.size + 1, 0, none⟩ = some (.int .i64 (a : Int)) ∧ Deb w1 ∧ Below w.heap.size w w1) :
    w2.cell? ⟨w.heap.size, 0, none⟩ = some (.int .i64 (n : Int)) ∧ w2.cell? ⟨w.heap.size + 1, 0, none⟩ = some (.int .i64 (a : Int)) ∧ Deb w2 ∧ Below w.heap.size w w2 :=
  ⟨pw_cell_below hb h.1, pw_cell_below hb h.2.1, h.2.2.1.below hb, below_step h.2.2.2 hb⟩
set_option maxHeartbeats 2000000 in
set_option maxRecDepth 100000 in
theorem turns_yes (n a : Nat) (b m : Int) (h2 : 2 ≤ n) (hn : n ≤ 24) (ha : a < 2 ^ n) (ha0 : a.testBit 0 = true) (w : World) (hT : Deb w) (h1 : sackbutref02_Rhythm.f (n : Int) (a : Int) = some true) (hbad : badR (n : Int) (a : Int) = false) :
    Calls Tryd.prog 3 #[.int .i64 (n : Int), .int .i64 (a : Int), .int .i64 b, .int .i64 m] w fun e w' => e = .returned (.bool true) ∧ Below w.heap.size w w' := by
  have hmf : ∀ (fn : Fn) (first cap : Array Value) (w : World), (Instr.makeFunc fn first cap).run Tryd.prog w = .ok (.func fn first cap) w := fun _ _ _ _ => rfl
  have hE' : ∀ (args : Array Value) (w : World), (callFunc 11 args).run Tryd.prog w = .ok (.enter 11 args) w := times_enters
  have hv := valid1 n a h2 hn hbad
  have h24 : 2 ^ n ≤ 2 ^ 24 := Nat.pow_le_pow_right (by decide) hn
  have hpl := parts_le n a h2 ha ha0
  have hneg := neg_count n a h2 hn ha ha0
  have hnl := tim_lt n a (n - 1) (by omega) n
  have hn0 := timF_zero n a (n - 1) (by omega) ha0
  have hvn := valid1 n (timF n a (n - 1)) h2 hn (badR_of n _ h2 hn hnl hn0)
  have HP1 := Aside0.mk (fun w hd => partners_yes n a h2 hn ha (by omega) w hd hv)
  have HP2 := Aside0.mk (fun w hd => partners_yes n (timF n a (n - 1)) h2 hn hnl (by omega) w hd hvn)
  rw [hneg] at HP2
  have HQ := Aside0.mk (fun w hd => partner_yes n a h2 hn ha w hd hv)
  have hE := lstE n a h2 ha ha0
  obtain ⟨L, hL⟩ : ∃ L, (parts n a).length = L := ⟨_, rfl⟩
  rw [hL] at HP1 HP2 hE
  obtain ⟨N, hN⟩ : ∃ N, timF n a (n - 1) = N := ⟨_, rfl⟩
  rw [hN] at HP2
  obtain ⟨P, hP⟩ : ∃ P, leastP n a = P := ⟨_, rfl⟩
  obtain ⟨PE, hPE⟩ : ∃ PE, leastE n a = PE := ⟨_, rfl⟩
  rw [hP, hPE] at HQ
  rw [hPE] at hE
  have HTm := Aside0.mk (fun (m' : Nat) (hm' : m' ≤ 24) (w' : World) => times_calls n a m' w.heap.size (w.heap.size + 1) h2 hn ha hm' w')
  replace hN := Aside0.mk hN
  replace hE := Aside0.mk hE
  replace h1 := Aside0.mk h1
  replace hT := Aside0.mk hT
  replace ha0 := Aside0.mk ha0
  replace hbad := Aside0.mk hbad
  clear hL hP hPE hneg hpl hnl hn0 hvn hv h24
  obtain ⟨w0, hw0⟩ : ∃ w0 : World, (w.alloc (Obj.cells #[Value.int IntKind.i64 ↑n] 3)).alloc (Obj.cells #[Value.int IntKind.i64 ↑a] 3) = w0 := ⟨_, rfl⟩
  have hb0 : Below w.heap.size w w0 := by rw [← hw0]; exact ((Below.refl _ _).alloc (Nat.le_refl _) _).alloc (by simp) _
  have c0 : w0.cell? ⟨w.heap.size, 0, none⟩ = some (.int .i64 (n : Int)) := by rw [← hw0]; exact (blk_cell (blk_alloc (blk_new w _) _) 0).trans rfl
  have c1 : w0.cell? ⟨w.heap.size + 1, 0, none⟩ = some (.int .i64 (a : Int)) := by
    rw [← hw0]
    have := blk_cell (blk_new (w.alloc (Obj.cells #[Value.int IntKind.i64 ↑n] 3)) (Obj.cells #[Value.int IntKind.i64 ↑a] 3)) 0
    rw [World.size_alloc] at this
    exact this.trans rfl
  replace hb0 := Aside0.mk hb0
  go_enter Tryd.func3, Tryd.ntmps3
  go_wp2_with fail
  refine (sackbutref02_Rhythm.calls _ _ _ _ h1.out).mono ?_
  rintro e w3 ⟨rfl, hD3⟩
  (try rw [hw0] at hD3)
  clear hw0
  obtain ⟨m3, rfl⟩ := hD3
  have HB1 := Aside0.mk (pw_below_drewN hb0.out m3)
  have g0 := Aside0.mk (show (w0.drewN m3).cell? ⟨w.heap.size, 0, none⟩ = some (.int .i64 (n : Int)) from c0)
  have g1 := Aside0.mk (show (w0.drewN m3).cell? ⟨w.heap.size + 1, 0, none⟩ = some (.int .i64 (a : Int)) from c1)
  obtain ⟨w1, hw1⟩ : ∃ w1, w0.drewN m3 = w1 := ⟨_, rfl⟩
  rw [hw1] at HB1 g0 g1 ⊢
  clear hw1 hb0 c0 c1
  have k0 := g0.out
  have k1 := g1.out
  go_wp2_with fail
  refine (HP1.out _ (hT.out.below HB1.out)).mono ?_
  rintro e w2 ⟨rfl, hb2⟩
  have HB2 := Aside0.mk (below_step HB1.out hb2)
  have G0 := Aside0.mk (pw_cell_below hb2 k0)
  have G1 := Aside0.mk (pw_cell_below hb2 k1)
  clear k0 k1 hb2 HB1 g0 g1
  have k0 := G0.out
  have k1 := G1.out
  have ksub : IntKind.i64.wrap ((n : Int) - 1) = ((n - 1 : Nat) : Int) := by rw [IntKind.wrap_i64]; omega
  obtain ⟨n1, hn1⟩ : ∃ n1, n - 1 = n1 := ⟨_, rfl⟩
  rw [hn1] at ksub hN
  go_wp2
  have S0 : w2.cell? ⟨w.heap.size, 0, none⟩ = some (.int .i64 (n : Int)) ∧ w2.cell? ⟨w.heap.size + 1, 0, none⟩ = some (.int .i64 (a : Int)) ∧ Deb w2 ∧ Below w.heap.size w w2 := ⟨k0, k1, hT.out.below HB2.out, HB2.out⟩
  have HT2 := Aside0.mk (fun (m' : Nat) (hm' : m' ≤ 24) (w' : World) (h : w'.cell? ⟨w.heap.size, 0, none⟩ = some (.int .i64 (n : Int)) ∧ w'.cell? ⟨w.heap.size + 1, 0, none⟩ = some (.int .i64 (a : Int)) ∧ Deb w' ∧ Below w.heap.size w w') => HTm.out m' hm' w' h.1 h.2.1)
  have HP3 := Aside0.mk (fun (w' : World) (h : w'.cell? ⟨w.heap.size, 0, none⟩ = some (.int .i64 (n : Int)) ∧ w'.cell? ⟨w.heap.size + 1, 0, none⟩ = some (.int .i64 (a : Int)) ∧ Deb w' ∧ Below w.heap.size w w') => HP2.out w' h.2.2.1)
  have HT3 := Aside0.mk (fun w' h => HT2.out n1 (by omega) w' h)
  rw [hN.out] at HT3
  have S1 := S_next (below_drew (Below.refl w2.heap.size w2)) S0
  clear k0 k1 G0 G1 HB2
  go_region_held3 (fun w' => w'.cell? ⟨w.heap.size, 0, none⟩ = some (.int .i64 (n : Int)) ∧ w'.cell? ⟨w.heap.size + 1, 0, none⟩ = some (.int .i64 (a : Int)) ∧ Deb w' ∧ Below w.heap.size w w') (first | exact S1 | assumption | exact S_next (by assumption) (by assumption))
    (first | (go_at_call 11; refine (HT3.out _ (by assumption)).mono ?_; rintro e w4 ⟨rfl, rfl⟩) | (go_at_call 9; refine (HP3.out _ (by assumption)).mono ?_; rintro e w5 ⟨rfl, hb5⟩))
  have S5 := Aside0.mk (S_next hb5 S1)
  clear S0 S1 hb5 HT3 HP3 HP2 hn1 ksub
  have k0 := S5.out.1
  have k1 := S5.out.2.1
  go_wp2_with fail
  refine (HQ.out _ S5.out.2.2.1).mono ?_
  rintro e w6 ⟨rfl, hb6⟩
  have S6 := Aside0.mk (S_next hb6 S5.out)
  clear hb6 S5 k0 k1
  have k0 := S6.out.1
  have k1 := S6.out.2.1
  have hE2 : (PE == 0) = decide ((0 : Int) < L) ∧ ¬ (L : Int) < 0 := by
    rcases hE.out with ⟨h, h'⟩ | ⟨h, h'⟩
    · rw [h, h']; exact ⟨rfl, by omega⟩
    · rw [h, decide_eq_true (by omega)]; exact ⟨rfl, by omega⟩
  obtain ⟨Z, hZ⟩ : ∃ Z, (PE == 0) = Z := ⟨_, rfl⟩
  have hZ2 : decide ((0 : Int) < L) = Z := by rw [← hE2.1, hZ]
  have hZ3 : decide (0 < L) = Z := by rw [← hZ2]; simp
  replace hE2 := hE2.2
  go_wp2_with fail
  rcases tiles_cases n a b h2 hn ha hbad.out with ⟨k, hk⟩ | ⟨k, hk⟩ | ⟨k, x, rfl, hx1, hx2, hx3, hTile, hk⟩
  · replace hk := Aside0.mk hk
    refine (canon_Tiles.calls _ _ _ _ _ _ _ hk.out).mono ?_
    rintro e w7 ⟨rfl, hb7⟩
    replace hb7 := Aside0.mk hb7
    go_wp2_with fail
    refine (sackbutlaw02_awake.calls 100 true _ awake_ok).mono ?_
    rintro e w8 ⟨rfl, hb8⟩
    replace hb8 := Aside0.mk hb8
    go_wp2
    go_ret
    exact ⟨rfl, below_step (below_step S6.out.2.2.2 hb7.out) hb8.out⟩
  · replace hk := Aside0.mk hk
    refine (canon_Tiles.calls _ _ _ _ _ _ _ hk.out).mono ?_
    rintro e w7 ⟨rfl, hb7⟩
    replace hb7 := Aside0.mk hb7
    go_wp2_with fail
    refine (sackbutlaw02_awake.calls 100 true _ awake_ok).mono ?_
    rintro e w8 ⟨rfl, hb8⟩
    replace hb8 := Aside0.mk hb8
    go_wp2
    go_ret
    exact ⟨rfl, below_step (below_step S6.out.2.2.2 hb7.out) hb8.out⟩
  · replace hk := Aside0.mk hk
    replace hTile := Aside0.mk hTile
    refine (canon_Tiles.calls _ _ _ _ _ _ _ hk.out).mono ?_
    rintro e w7 ⟨rfl, hb7⟩
    have S7 := Aside0.mk (S_next hb7 S6.out)
    clear hb7 S6 k0 k1
    have k0 := S7.out.1
    have k1 := S7.out.2.1
    obtain ⟨M, hM1, hM2, hM3⟩ := own_mod m n h2 hn
    have hM4 : IntKind.i64.wrap (M : Int) = (M : Int) := by rw [IntKind.wrap_i64]; omega
    have hM5 : IntKind.i64.wrap (1 + (M : Int)) = ((1 + M : Nat) : Int) := by rw [IntKind.wrap_i64]; omega
    have hnz : ¬ n = 0 := by omega
    obtain ⟨G, hG⟩ : ∃ G, 1 + M = G := ⟨_, rfl⟩
    rw [hG] at hM5
    have HTG := Aside0.mk (fun hc : Nat.gcd G n = 1 => at_tiles n (timF n a G) x h2 hn (tim_lt n a G (by omega) n) (timF_zero n a G (by omega) ha0.out) hx1 hx2 (tim_tile n a x G h2 hn ha hx1 ha0.out hx2 hc hTile.out))
    have HTT := Aside0.mk (fun (w' : World) (h : w'.cell? ⟨w.heap.size, 0, none⟩ = some (.int .i64 (n : Int)) ∧ w'.cell? ⟨w.heap.size + 1, 0, none⟩ = some (.int .i64 (a : Int)) ∧ Deb w' ∧ Below w.heap.size w w') => HTm.out G (by omega) w' h.1 h.2.1)
    obtain ⟨TG, hTG⟩ : ∃ TG, timF n a G = TG := ⟨_, rfl⟩
    rw [hTG] at HTG HTT
    clear hTG hx1 hx2 hx3 hTile HTm HT2 HP1 HQ hM1
    go_wp2
    go_quiet (fail)
    go_wp2
    go_loopw [17, 18] (fun v v' wr => ∃ (X Y : Nat), v = .int .i64 (X : Int) ∧ v' = .int .i64 (Y : Int) ∧ Aside0 (Nat.gcd X Y = Nat.gcd G n) ∧ Aside0 (Drawn0 w7 wr)) (fun _ v _ => (intOf v).toNat)
    case atStart => exact ⟨G, n, rfl, rfl, ⟨rfl⟩, ⟨⟨_, rfl⟩⟩⟩
    case round =>
      obtain ⟨X, Y, rfl, rfl, hg, hD⟩ := hrel
      have S8 := Aside0.mk (S_next hD.out.below S7.out)
      by_cases hY : Y = 0
      · subst hY
        by_cases hX : X = 1
        · subst hX
          have hc := hg.out
          rw [Nat.gcd_zero_right] at hc
          obtain ⟨kt, hkt⟩ := HTG.out hc.symm
          replace hkt := Aside0.mk hkt
          have S9 := S_next (below_drew (Below.refl wr.heap.size wr)) S8.out
          clear hc hg k0 k1
          go_wp2
          go_region_held3 (fun w' => w'.cell? ⟨w.heap.size, 0, none⟩ = some (.int .i64 (n : Int)) ∧ w'.cell? ⟨w.heap.size + 1, 0, none⟩ = some (.int .i64 (a : Int)) ∧ Deb w' ∧ Below w.heap.size w w') (first | exact S9 | assumption | exact S_next (by assumption) (by assumption))
            (first | (go_at_call 11; refine (HTT.out _ (by assumption)).mono ?_; rintro e w4 ⟨rfl, rfl⟩) | (go_at_call 13; refine (canon_Tiles.calls _ _ _ _ _ _ _ hkt.out).mono ?_; rintro e w5 ⟨rfl, hb5⟩))
          have S10 := Aside0.mk (S_next hb5 S9)
          clear S9 hb5
          go_wp2_with fail
          refine (sackbutlaw02_awake.calls 100 true _ awake_ok).mono ?_
          rintro e w8 ⟨rfl, hb8⟩
          replace hb8 := Aside0.mk hb8
          go_wp2
          go_ret
          exact ⟨rfl, below_step S10.out.2.2.2 hb8.out⟩
        · have hX2 : ¬ (X : Int) = 1 := by omega
          go_wp2_with fail
          refine (sackbutlaw02_awake.calls 100 true _ awake_ok).mono ?_
          rintro e w8 ⟨rfl, hb8⟩
          replace hb8 := Aside0.mk hb8
          go_wp2
          go_ret
          exact ⟨rfl, below_step S8.out.2.2.2 hb8.out⟩
      · have hr : Int.tmod (X : Int) (Y : Int) = ((X % Y : Nat) : Int) := rfl
        have hrl : X % Y < Y := Nat.mod_lt _ (by omega)
        have hgr : Nat.gcd Y (X % Y) = Nat.gcd G n := by rw [Nat.gcd_comm, ← Nat.gcd_rec, Nat.gcd_comm]; exact hg.out
        obtain ⟨R, hR⟩ : ∃ R, X % Y = R := ⟨_, rfl⟩
        rw [hR] at hr hrl hgr
        replace hgr := Aside0.mk hgr
        clear hg hR
        go_wp2
        go_quiet (fail)
        go_wp2
        go_roundw
        case measure => simp [intOf]; omega
        case rel => exact ⟨Y, R, rfl, rfl, hgr, ⟨Drawn0.step hD.out _⟩⟩

set_option maxHeartbeats 2000000 in
set_option maxRecDepth 100000 in
theorem turns_no (n a b m : Int) (w : World) (h1 : sackbutref02_Rhythm.f n a = some false) (h2 : canon_circle_valid.f n [a] = some false) :
    Calls Tryd.prog 3 #[.int .i64 n, .int .i64 a, .int .i64 b, .int .i64 m] w fun e w' => e = .returned (.bool true) ∧ Below w.heap.size w w' := by
  replace h1 := Aside0.mk h1
  replace h2 := Aside0.mk h2
  go_enter Tryd.func3, Tryd.ntmps3
  go_wp2_with fail
  refine (sackbutref02_Rhythm.calls _ _ _ _ h1.out).mono ?_
  rintro e w3 ⟨rfl, hD3⟩
  obtain ⟨m3, rfl⟩ := hD3
  go_wp2_with fail
  refine (partners_no n a _ h2.out).mono ?_
  rintro e w2 ⟨rfl, hb2⟩
  replace hb2 := Aside0.mk hb2
  go_wp2_with fail
  refine (sackbutlaw02_awake.calls 100 true _ awake_ok).mono ?_
  rintro e w4 ⟨rfl, hb4⟩
  replace hb4 := Aside0.mk hb4
  go_wp2
  go_ret
  exact ⟨rfl, below_step (below_step (pw_below_drewN (((Below.refl _ _).alloc (Nat.le_refl _) _).alloc (by simp) _) _) hb2.out) hb4.out⟩
theorem valid_no (n a : Int) (h : (decide (2 ≤ n) && decide (n ≤ 24) && !badR n a) = false) : canon_circle_valid.f n [a] = some false := by
  rw [valid_eq n [a] (by simp)]
  simpa using h
theorem turns_calls (n a b m : Int) (w : World) (hT : Deb w) : Calls Tryd.prog 3 #[.int .i64 n, .int .i64 a, .int .i64 b, .int .i64 m] w fun e w' => e = .returned (.bool true) ∧ Below w.heap.size w w' := by
  rcases rhythm_cases n a with ⟨h1, h2⟩ | ⟨h1, h2, k, x, rfl, rfl, h3, h4, h5, h6⟩
  · exact turns_no n a b m w h1 (valid_no n a h2)
  · exact turns_yes k x b m h3 h4 h5 h6 w hT h1 h2
end Go.Proofs.YtknlablmkcabkaaDoor.Tw
