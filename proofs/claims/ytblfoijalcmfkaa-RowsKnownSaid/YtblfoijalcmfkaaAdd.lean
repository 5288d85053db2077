/- The step of the search: a tone is added unless it or its step came. -/
import Derived.Test.YtblfoijalcmfkaaPRowsCountsx
import Derived.Test.YtblfoijalcmfkaaHnd
import Derived.Deep.CutRange
import Derived.StillTailTactics
namespace Go.Proofs.Ytblfoijalcmfkaa.Hand
open Go.RowKit Go.Proofs.YtblfoijalcmfkaaW.PrintWords Go.Proofs.YtblfoijalcmfkaaW.PrintLast Go.Proofs.YtblfoijalcmfkaaW.PrintMore Go.Proofs.YtblfoijalcmfkaaHnd
set_option linter.unusedVariables false
set_option linter.unusedSimpArgs false

theorem rmod_any (x n : Int) (w : World) (hn : 0 < n) (hn1 : n ≤ 4611686018427387904) :
    Calls Try.prog 53 #[.int .i64 x, .int .i64 n] w fun e w' => e = .returned (.int .i64 (x % n)) ∧ w' = w := by
  have hz : (n == 0) = false := beq_eq_false_iff_ne.mpr (by omega)
  have h1 : -n < Int.tmod x n := Int.lt_tmod_of_pos x hn
  have h2 : Int.tmod x n < n := Int.tmod_lt_of_pos x hn
  have hm := Aside0.mk (mod_plain x n hn)
  go_enter Try.func53, Try.ntmps53
  go_wp2
  go_ret
  exact ⟨ret_i64 hm.out, rfl⟩

set_option maxHeartbeats 400000 in
theorem add_tone (n t s x : Int) (A : Option Addr) (c k : Nat) (w : World) (hx : 0 ≤ x) (hx1 : x ≤ 64)
    (h : (bits .and .i64 (t / 2 ^ x.toNat) 1 == 1) = true) :
    Calls Try.prog 49 #[.agg #[.int .i64 n, .slice A k c, .int .i64 t, .int .i64 s], .int .i64 x] w fun e w' => e = .returned (.tuple #[.agg #[.int .i64 n, .slice A k c, .int .i64 t, .int .i64 s], .bool false]) ∧ Below w.heap.size w w' := by
  go_enter Try.func49, Try.ntmps49
  go_wp2
  exact bodyPost_ret (v := .tuple #[.agg #[.int .i64 n, .slice A k c, .int .i64 t, .int .i64 s], .bool false]) (by simp [results, Try.results49, go_sem]) rfl ⟨rfl, (((Below.refl _ _).alloc (Nat.le_refl _) _).alloc (by simp) _)⟩


/-- What a search holds. -/
abbrev srch (n : Int) (v : Value) (t s : Int) : Array Value := #[.int .i64 n, v, .int .i64 t, .int .i64 s]
def AddW (w : World) (n : Int) (v : Value) (t s : Int) (W : World) : Prop :=
  Below w.heap.size w W ∧ W.heap.size = w.heap.size + 2 ∧ W.heap[w.heap.size]? = some (.cells #[.int .i64 n, v, .int .i64 t, .int .i64 s] 56 (0, 0)) ∧ W.heap[w.heap.size + 1]? = some (.cells #[.int .i64 0, .slice none 0 0, .int .i64 0, .int .i64 0] 56 (0, 0))
theorem AddW_start (w : World) (n : Int) (v : Value) (t s : Int) (nq : Nat) : AddW w n v t s (((w.alloc (.cells #[.int .i64 n, v, .int .i64 t, .int .i64 s] 56)).alloc (.cells #[.int .i64 0, .slice none 0 0, .int .i64 0, .int .i64 0] 56)).drewN nq) :=
  ⟨pw_below_drewN (((Below.refl _ _).alloc (Nat.le_refl _) _).alloc (by simp) _) _, by simp, blk_new0 _ _ _, blk_new1 _ _ _⟩

theorem AddW_put3 {w W : World} {n : Int} {v : Value} {t s : Int} (s' : Int) (h : AddW w n v t s W) : AddW w n v t s' (W.setCell ⟨w.heap.size, 3, none⟩ (.int .i64 s')) :=
  ⟨(h.1.setCell (by simp) _), by simpa using h.2.1, by simpa using blk_set h.2.2.1 3 (.int .i64 s'), blk_far h.2.2.2 (by simp) _⟩
theorem AddW_put2 {w W : World} {n : Int} {v : Value} {t s : Int} (t' : Int) (h : AddW w n v t s W) : AddW w n v t' s (W.setCell ⟨w.heap.size, 2, none⟩ (.int .i64 t')) :=
  ⟨(h.1.setCell (by simp) _), by simpa using h.2.1, by simpa using blk_set h.2.2.1 2 (.int .i64 t'), blk_far h.2.2.2 (by simp) _⟩
theorem AddW_drew {w W : World} {n : Int} {v : Value} {t s : Int} (h : AddW w n v t s W) : AddW w n v t s W.drew := ⟨h.1.drew, h.2.1, h.2.2.1, h.2.2.2⟩

set_option maxHeartbeats 400000 in
theorem add_step (n t s x y : Int) (A : Option Addr) (c : Nat) (l : List Int) (w : World) (hx : 0 ≤ x) (hx1 : x ≤ 64) (hn : 0 < n) (hn1 : n ≤ 16)
    (hr : Kd.C (Kd.int .i64) w A (l ++ [y]).length (l ++ [y])) (hl : l.length ≤ 100) (hy0 : 0 ≤ y) (hy1 : y ≤ 64)
    (h : (bits .and .i64 (t / 2 ^ x.toNat) 1 == 1) = false)
    (h2 : (bits .and .i64 (s / 2 ^ ((x - y) % n).toNat) 1 == 1) = true) :
    Calls Try.prog 49 #[.agg #[.int .i64 n, .slice A (l.length + 1) c, .int .i64 t, .int .i64 s], .int .i64 x] w fun e w' => e = .returned (.tuple #[.agg #[.int .i64 n, .slice A (l.length + 1) c, .int .i64 t, .int .i64 s], .bool false]) ∧ Below w.heap.size w w' := by
  obtain ⟨ad, rfl, hcell⟩ := Kd.at_int hr l.length (by omega) (by simp; omega)
  have hrd : rd (l ++ [y]) l.length = y := by simp [rd]
  rw [hrd] at hcell
  clear hrd
  simp only [Int.toNat_natCast] at hcell
  have g1 : IntKind.i64.wrap (l.length : Int) = (l.length : Int) := by rw [IntKind.wrap_i64]; omega
  have g5 : IntKind.i64.wrap (x - y) = x - y := by rw [IntKind.wrap_i64]; omega
  have g7 := World.block_lt_of_cell? w _ hcell
  have g8 : (ad.add l.length).block < w.heap.size + 1 := by omega
  have g6 : (l.length : Int) < (l.length : Int) + 1 := by omega
  have g2 : 0 ≤ (x - y) % n := Int.emod_nonneg _ (by omega)
  have g3 : (x - y) % n < n := Int.emod_lt_of_pos _ hn
  go_enter Try.func49, Try.ntmps49
  go_wp2
  go_quiet ((go_at_call 53; exact Calls.quiet_of_same (rmod_any _ _ _ (by omega) (by omega))))
  refine at_then (AddW w n (.slice (some ad) (l.length + 1) c) t s) (AddW_start w n _ t s nq) (fun W hW => ?_)
  obtain ⟨hB, hS, hb0, hb1⟩ := hW
  have a0 := blk_cell hb0 0
  have a1 := blk_cell hb0 1
  have a2 := blk_cell hb0 2
  have a3 := blk_cell hb0 3
  have b0 := blk_cell hb1 0
  have b1 := blk_cell hb1 1
  have b2 := blk_cell hb1 2
  have b3 := blk_cell hb1 3
  have f0 := blk_frozen hb1
  simp at a0 a1 a2 a3 b0 b1 b2 b3
  replace hS := Aside0.mk hS
  replace hb0 := Aside0.mk hb0
  replace hb1 := Aside0.mk hb1
  go_wp2
  have hb' := blk_set4 (a' := .int .i64 n) (b' := .slice (some ad) (l.length + 1) c) (c' := .int .i64 t) (d' := .int .i64 s) hb1.out
  have c0 := blk_cell hb' 0
  have c1 := blk_cell hb' 1
  have c2 := blk_cell hb' 2
  have c3 := blk_cell hb' 3
  exact bodyPost_ret (v := .tuple #[.agg #[.int .i64 n, .slice (some ad) (l.length + 1) c, .int .i64 t, .int .i64 s], .bool false]) (by simp [results, Try.results49, go_sem, c0, c1, c2, c3]) rfl ⟨rfl, ((((hB.setCell (by simp) _).setCell (by simp) _).setCell (by simp) _).setCell (by simp) _)⟩


theorem info3 : (Try.prog.info? 3).map (fun i => (i.zero, i.size, i.bytes)) = some (some (.int .i64 0), 1, 8) := by kernel_rfl

theorem cells_of_C {w : World} {ad : Addr} {n : Nat} {l : List Int} (h : Kd.C (Kd.int .i64) w (some ad) n l) : ∀ j u, (l.map (Value.int .i64))[j]? = some u → w.cell? (ad.add j) = some u := by
  intro j u hu
  have hl : j < l.length := by
    rcases Nat.lt_or_ge j l.length with h1 | h1
    · exact h1
    · simp [List.getElem?_eq_none h1] at hu
  have hn := h.1
  obtain ⟨ad', e, hc⟩ := Kd.at_int h j (by omega) (by omega)
  cases e
  simp [List.getElem?_eq_getElem hl] at hu
  rw [← hu]
  simpa [rd, List.getD, List.getElem?_eq_getElem hl] using hc

set_option maxHeartbeats 1000000 in
set_option maxRecDepth 100000 in
theorem add_more (n t s x y : Int) (A : Option Addr) (c : Nat) (l : List Int) (w : World) (hx : 0 ≤ x) (hx1 : x ≤ 62) (hn : 0 < n) (hn1 : n ≤ 16)
    (hr : Kd.C (Kd.int .i64) w A (l ++ [y]).length (l ++ [y])) (hl : l.length ≤ 100) (hy0 : 0 ≤ y) (hy1 : y ≤ 64) (hcap : l.length + 1 ≤ c)
    (h : (bits .and .i64 (t / 2 ^ x.toNat) 1 == 1) = false)
    (h2 : (bits .and .i64 (s / 2 ^ ((x - y) % n).toNat) 1 == 1) = false) :
    Calls Try.prog 49 #[.agg #[.int .i64 n, .slice A (l.length + 1) c, .int .i64 t, .int .i64 s], .int .i64 x] w fun e w' => ∃ g c', e = .returned (.tuple #[.agg #[.int .i64 n, .slice (some ⟨g, 0, none⟩) (l.length + 2) c', .int .i64 (bits .or .i64 t (wrap64 (2 ^ x.toNat))), .int .i64 (bits .or .i64 s (wrap64 (2 ^ ((x - y) % n).toNat)))], .bool true]) ∧ w.heap.size ≤ g ∧ (∃ cs, w'.heap[g]? = some (.cells cs 3 (0, 0))) ∧ l.length + 2 ≤ c' ∧ Kd.C (Kd.int .i64) w' (some ⟨g, 0, none⟩) (l ++ [y] ++ [x]).length (l ++ [y] ++ [x]) ∧ Below w.heap.size w w' := by
  obtain ⟨ad, rfl, hcell⟩ := Kd.at_int hr l.length (by omega) (by simp; omega)
  have hrd : rd (l ++ [y]) l.length = y := by simp [rd]
  rw [hrd] at hcell
  clear hrd
  simp only [Int.toNat_natCast] at hcell
  have g1 : IntKind.i64.wrap (l.length : Int) = (l.length : Int) := by rw [IntKind.wrap_i64]; omega
  have g5 : IntKind.i64.wrap (x - y) = x - y := by rw [IntKind.wrap_i64]; omega
  have g7 := World.block_lt_of_cell? w _ hcell
  have g8 : (ad.add l.length).block < w.heap.size + 1 := by omega
  have g6 : (l.length : Int) < (l.length : Int) + 1 := by omega
  have g2 : 0 ≤ (x - y) % n := Int.emod_nonneg _ (by omega)
  have g3 : (x - y) % n < n := Int.emod_lt_of_pos _ hn
  have g9 : (l.length : Int) + 1 ≤ (c : Int) := by omega
  have g10 : 0 ≤ (l.length : Int) + 1 := by omega
  obtain ⟨i0, hi, hz0, hz1, hz2⟩ := info_parts info3
  have HC := Aside0.mk (cells_of_C hr)
  go_enter Try.func49, Try.ntmps49
  go_wp2
  go_quiet ((go_at_call 53; exact Calls.quiet_of_same (rmod_any _ _ _ (by omega) (by omega))))
  refine at_then (AddW w n (.slice (some ad) (l.length + 1) c) t s) (AddW_start w n _ t s nq) (fun W hW => ?_)
  have a0 := blk_cell hW.2.2.1 0
  have a1 := blk_cell hW.2.2.1 1
  have a2 := blk_cell hW.2.2.1 2
  have a3 := blk_cell hW.2.2.1 3
  have f0 := blk_frozen hW.2.2.1
  simp at a0 a1 a2 a3
  replace hW := Aside0.mk hW
  go_wp2
  go_still_tail 6, (by kernel_rfl)
  change wpList _ _ _ _ _ W.drew
  go_wp2
  refine at_world (AddW w n (.slice (some ad) (l.length + 1) c) t (bits .or .i64 s (wrap64 (2 ^ ((x - y) % n).toNat)))) (AddW_drew (AddW_put3 _ hW.out)) (fun W1 hW1 => ?_)
  clear a0 a1 a2 a3 f0 hW
  have a0 := blk_cell hW1.2.2.1 0
  have a1 := blk_cell hW1.2.2.1 1
  have a2 := blk_cell hW1.2.2.1 2
  have a3 := blk_cell hW1.2.2.1 3
  have f0 := blk_frozen hW1.2.2.1
  simp at a0 a1 a2 a3
  replace hW1 := Aside0.mk hW1
  go_still_tail 6, (by kernel_rfl)
  change wpList _ _ _ _ _ W1.drew
  go_upto_region 10 with fail
  refine at_world (AddW w n (.slice (some ad) (l.length + 1) c) (bits .or .i64 t (wrap64 (2 ^ x.toNat))) (bits .or .i64 s (wrap64 (2 ^ ((x - y) % n).toNat)))) (AddW_drew (AddW_put2 _ hW1.out)) (fun W2 hW2 => ?_)
  clear a0 a1 a2 a3 f0 hW1
  have a0 := blk_cell hW2.2.2.1 0
  have a1 := blk_cell hW2.2.2.1 1
  have a2 := blk_cell hW2.2.2.1 2
  have a3 := blk_cell hW2.2.2.1 3
  have f0 := blk_frozen hW2.2.2.1
  simp at a0 a1 a2 a3
  replace hW2 := Aside0.mk hW2
  go_wp2_with (at_builtin; refine wpList_append_grows _ rfl _ _ 25 rfl 3 i0 (.int .i64 0) 1 8 Try.underlying25 hi hz0 hz1 hz2 rfl (by decide) (some ad) (l.length + 1) (l.length + 1) ((l ++ [y]).map (Value.int .i64)) rfl (by simp) (by simp) ?c1 ⟨W2.heap.size, 0, none⟩ 1 1 [.int .i64 x] rfl rfl ?c2 (by simp [Value.oneCell']) (by omega) (by unfold maxLen; omega) (by omega) ?c3)
  case c1 =>
    intro b hb j u hu
    cases hb
    exact pw_cell_below (w := w) (hW2.out.1.alloc (by simp [hW2.out.2.1]) _) (HC.out j u hu)
  case c2 => exact cell_one_at (by simp)
  case c3 =>
    intro v' w1 hown hgrow
    obtain ⟨g, cap, rfl, hgc⟩ := own_succ hown
    have hgl : w.heap.size ≤ g := by have := own_base hown g rfl; simp [hW2.out.2.1] at this; omega
    have HO : Aside0 (w1.ownsRow (w.heap.size + 3) 3 1 (.slice (some ⟨g, 0, none⟩) (l.length + 2) cap) (l.length + 2) ((l ++ [y] ++ [x]).map (Value.int .i64))) := ⟨by simpa [hW2.out.2.1] using hown⟩
    have hB : Below w.heap.size w w1 := (hW2.out.1.alloc (by simp [hW2.out.2.1]) _).grown hgrow (by simp [hW2.out.2.1]; omega) (by simp)
    have H0 := blk_grown (blk_alloc hW2.out.2.2.1 _) hgrow (by simp)
    have H1 := blk_grown (blk_alloc hW2.out.2.2.2 _) hgrow (by simp)
    have HB := Aside0.mk hB
    have H1' := Aside0.mk H1
    clear hown hgrow hB hW2 a0 a1 a2 a3 f0 H1
    have a0 := blk_cell H0 0
    have a1 := blk_cell H0 1
    have a2 := blk_cell H0 2
    have a3 := blk_cell H0 3
    have f0 := blk_frozen H0
    have f1 := blk_frozen H1'.out
    have b0 := blk_cell H1'.out 0
    have b1 := blk_cell H1'.out 1
    have b2 := blk_cell H1'.out 2
    have b3 := blk_cell H1'.out 3
    simp at a0 a1 a2 a3 b0 b1 b2 b3
    replace H0 := Aside0.mk H0
    go_wp2
    have hb' := blk_set4 (a' := .int .i64 n) (b' := .slice (some ⟨g, 0, none⟩) (l.length + 1 + 1) cap) (c' := .int .i64 (bits .or .i64 t (wrap64 (2 ^ x.toNat)))) (d' := .int .i64 (bits .or .i64 s (wrap64 (2 ^ ((x - y) % n).toNat)))) (blk_far H1'.out (p := ⟨w.heap.size, 1, none⟩) (by simp) (.slice (some ⟨g, 0, none⟩) (l.length + 1 + 1) cap))
    have c0 := blk_cell hb' 0
    have c1 := blk_cell hb' 1
    have c2 := blk_cell hb' 2
    have c3 := blk_cell hb' 3
    exact bodyPost_ret (v := .tuple #[.agg #[.int .i64 n, .slice (some ⟨g, 0, none⟩) (l.length + 1 + 1) cap, .int .i64 (bits .or .i64 t (wrap64 (2 ^ x.toNat))), .int .i64 (bits .or .i64 s (wrap64 (2 ^ ((x - y) % n).toNat)))], .bool true]) (by simp [results, Try.results49, go_sem, c0, c1, c2, c3]) rfl
      ⟨g, cap, rfl, by omega, own_typed (ownsRow_setCell_below (ownsRow_setCell_below (ownsRow_setCell_below (ownsRow_setCell_below (ownsRow_setCell_below HO.out (by simp) _) (by simp) _) (by simp) _) (by simp) _) (by simp) _) g rfl, by omega, C_of_ownsRow (by simpa using ownsRow_setCell_below (ownsRow_setCell_below (ownsRow_setCell_below (ownsRow_setCell_below (ownsRow_setCell_below HO.out (by simp) _) (by simp) _) (by simp) _) (by simp) _) (by simp) _) (by simp), ((((HB.out.setCell (by simp) _).setCell (by simp) _).setCell (by simp) _).setCell (by simp) _).setCell (by simp) _⟩

set_option maxHeartbeats 1000000 in
set_option maxRecDepth 100000 in
theorem add_first (n t s x : Int) (w : World) (hx : 0 ≤ x) (hx1 : x ≤ 62) (hn : 0 < n) (hn1 : n ≤ 16)
    (h : (bits .and .i64 (t / 2 ^ x.toNat) 1 == 1) = false) :
    Calls Try.prog 49 #[.agg #[.int .i64 n, .slice none 0 0, .int .i64 t, .int .i64 s], .int .i64 x] w fun e w' => ∃ g c', e = .returned (.tuple #[.agg #[.int .i64 n, .slice (some ⟨g, 0, none⟩) 1 c', .int .i64 (bits .or .i64 t (wrap64 (2 ^ x.toNat))), .int .i64 s], .bool true]) ∧ w.heap.size ≤ g ∧ (∃ cs, w'.heap[g]? = some (.cells cs 3 (0, 0))) ∧ 1 ≤ c' ∧ Kd.C (Kd.int .i64) w' (some ⟨g, 0, none⟩) [x].length [x] ∧ Below w.heap.size w w' := by
  obtain ⟨i0, hi, hz0, hz1, hz2⟩ := info_parts info3
  go_enter Try.func49, Try.ntmps49
  go_wp2
  refine at_world (AddW w n (.slice none 0 0) t s) (AddW_start w n _ t s 0) (fun W1 hW1 => ?_)
  have a0 := blk_cell hW1.2.2.1 0
  have a1 := blk_cell hW1.2.2.1 1
  have a2 := blk_cell hW1.2.2.1 2
  have a3 := blk_cell hW1.2.2.1 3
  have f0 := blk_frozen hW1.2.2.1
  simp at a0 a1 a2 a3
  replace hW1 := Aside0.mk hW1
  go_still_tail 6, (by kernel_rfl)
  change wpList _ _ _ _ _ W1.drew
  go_upto_region 10 with fail
  refine at_world (AddW w n (.slice none 0 0) (bits .or .i64 t (wrap64 (2 ^ x.toNat))) s) (AddW_drew (AddW_put2 _ hW1.out)) (fun W2 hW2 => ?_)
  clear a0 a1 a2 a3 f0 hW1
  have a0 := blk_cell hW2.2.2.1 0
  have a1 := blk_cell hW2.2.2.1 1
  have a2 := blk_cell hW2.2.2.1 2
  have a3 := blk_cell hW2.2.2.1 3
  have f0 := blk_frozen hW2.2.2.1
  simp at a0 a1 a2 a3
  replace hW2 := Aside0.mk hW2
  go_wp2_with (at_builtin; refine wpList_append_grows _ rfl _ _ 25 rfl 3 i0 (.int .i64 0) 1 8 Try.underlying25 hi hz0 hz1 hz2 rfl (by decide) none 0 0 [] rfl (by simp) (by simp) ?c1 ⟨W2.heap.size, 0, none⟩ 1 1 [.int .i64 x] rfl rfl ?c2 (by simp [Value.oneCell']) (by omega) (by unfold maxLen; omega) (by omega) ?c3)
  case c1 =>
    intro b hb j u hu
    cases hb
  case c2 => exact cell_one_at (by simp)
  case c3 =>
    intro v' w1 hown hgrow
    obtain ⟨g, cap, rfl, hgc⟩ := own_succ hown
    have hgl : w.heap.size ≤ g := by have := own_base hown g rfl; simp [hW2.out.2.1] at this; omega
    have HO : Aside0 (w1.ownsRow (w.heap.size + 3) 3 1 (.slice (some ⟨g, 0, none⟩) (1) cap) (1) ([x].map (Value.int .i64))) := ⟨by simpa [hW2.out.2.1] using hown⟩
    have hB : Below w.heap.size w w1 := (hW2.out.1.alloc (by simp [hW2.out.2.1]) _).grown hgrow (by simp [hW2.out.2.1]; omega) (by simp)
    have H0 := blk_grown (blk_alloc hW2.out.2.2.1 _) hgrow (by simp)
    have H1 := blk_grown (blk_alloc hW2.out.2.2.2 _) hgrow (by simp)
    have HB := Aside0.mk hB
    have H1' := Aside0.mk H1
    clear hown hgrow hB hW2 a0 a1 a2 a3 f0 H1
    have a0 := blk_cell H0 0
    have a1 := blk_cell H0 1
    have a2 := blk_cell H0 2
    have a3 := blk_cell H0 3
    have f0 := blk_frozen H0
    have f1 := blk_frozen H1'.out
    have b0 := blk_cell H1'.out 0
    have b1 := blk_cell H1'.out 1
    have b2 := blk_cell H1'.out 2
    have b3 := blk_cell H1'.out 3
    simp at a0 a1 a2 a3 b0 b1 b2 b3
    replace H0 := Aside0.mk H0
    go_wp2
    have hb' := blk_set4 (a' := .int .i64 n) (b' := .slice (some ⟨g, 0, none⟩) (0 + 1) cap) (c' := .int .i64 (bits .or .i64 t (wrap64 (2 ^ x.toNat)))) (d' := .int .i64 s) (blk_far H1'.out (p := ⟨w.heap.size, 1, none⟩) (by simp) (.slice (some ⟨g, 0, none⟩) (0 + 1) cap))
    have c0 := blk_cell hb' 0
    have c1 := blk_cell hb' 1
    have c2 := blk_cell hb' 2
    have c3 := blk_cell hb' 3
    exact bodyPost_ret (v := .tuple #[.agg #[.int .i64 n, .slice (some ⟨g, 0, none⟩) (0 + 1) cap, .int .i64 (bits .or .i64 t (wrap64 (2 ^ x.toNat))), .int .i64 s], .bool true]) (by simp [results, Try.results49, go_sem, c0, c1, c2, c3]) rfl
      ⟨g, cap, rfl, by omega, own_typed (ownsRow_setCell_below (ownsRow_setCell_below (ownsRow_setCell_below (ownsRow_setCell_below (ownsRow_setCell_below HO.out (by simp) _) (by simp) _) (by simp) _) (by simp) _) (by simp) _) g rfl, by omega, C_of_ownsRow (by simpa using ownsRow_setCell_below (ownsRow_setCell_below (ownsRow_setCell_below (ownsRow_setCell_below (ownsRow_setCell_below HO.out (by simp) _) (by simp) _) (by simp) _) (by simp) _) (by simp) _) (by simp), ((((HB.out.setCell (by simp) _).setCell (by simp) _).setCell (by simp) _).setCell (by simp) _).setCell (by simp) _⟩

end Go.Proofs.Ytblfoijalcmfkaa.Hand
