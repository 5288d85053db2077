/- The walk of the statement CanonFills. -/
import Derived.Test.YtknlablmkcabkaaPk
import Derived.Test.YtknlablmkcabkaaPl
import Derived.Test.YtknlablmkcabkaaPm
import Derived.Test.YtknlablmkcabkaaGivb
import Derived.Test.YtknlablmkcabkaaPe
import Derived.StillTailTactics
namespace Go.Proofs.Ytknlablmkcabkaa.Fw
open Go.RowKit Go.Shelf Go.Proofs.YtknlablmkcabkaaW.PrintWords Go.Proofs.YtknlablmkcabkaaW.PrintLast Go.Proofs.YtknlablmkcabkaaW.PrintMore Go.Proofs.YtknlablmkcabkaaHnd QCanonRoots Pa Til
set_option linter.unusedVariables false
set_option linter.unusedSimpArgs false

theorem tiles_no (n a b : Int) (h : (decide (2 ≤ n) && decide (n ≤ 24) && !([a, b].any (badR n))) = false) : ∀ k, canon_Tiles.f k n a b = some (false, 2) := by
  intro k
  unfold canon_Tiles.f
  rw [valid_eq n [a, b] (by simp), h]
  rfl
theorem awake_ok : sackbutlaw02_awake.f 100 = some true := by decide +kernel

set_option maxHeartbeats 2000000 in
set_option maxRecDepth 100000 in
theorem fills_no (n a b : Int) (w : World) (h : (decide (2 ≤ n) && decide (n ≤ 24) && !([a, b].any (badR n))) = false) :
    Calls Try.prog 3 #[.int .i64 n, .int .i64 a, .int .i64 b] w fun e w' => e = .returned (.bool true) ∧ Below w.heap.size w w' := by
  have h1 := Aside0.mk (tiles_no n a b h 100)
  clear h
  go_enter Try.func3, Try.ntmps3
  go_wp2_with fail
  refine (canon_Tiles.calls 100 n a b false 2 _ h1.out).mono ?_
  rintro e w2 ⟨rfl, hb2⟩
  replace hb2 := Aside0.mk hb2
  go_wp2_with fail
  refine (sackbutlaw02_awake.calls 100 true _ awake_ok).mono ?_
  rintro e w3 ⟨rfl, hb3⟩
  replace hb3 := Aside0.mk hb3
  go_wp2
  go_ret
  exact ⟨rfl, hb2.out.trans (hb3.out.mono hb2.out.size)⟩

theorem idx0 (u v : Int) (w : World) : (Instr.index 29 (.agg #[.int .i64 u, .int .i64 v]) (.int .i64 0)).run Try.prog w = .ok (.int .i64 u) w := by kernel_rfl
theorem idx1 (u v : Int) (w : World) : (Instr.index 29 (.agg #[.int .i64 u, .int .i64 v]) (.int .i64 1)).run Try.prog w = .ok (.int .i64 v) w := by kernel_rfl
theorem bitI (a x : Nat) (ha : a < 16777216) (hx : x < 24) : Go.bits .and .i64 ((a : Int) / 2 ^ x) 1 = ((a.testBit x).toNat : Int) := by
  have := bit_int a x ha (by omega)
  unfold shr at this
  rwa [Int.toNat_natCast, Nat.min_eq_left (show x ≤ IntKind.i64.bits from by show x ≤ 64; omega)] at this
theorem difI (n x y : Nat) (hn : n ≤ 24) (hx : x < n) (hy : y < n) : IntKind.i64.wrap ((x : Int) - y) = (x : Int) - y ∧ IntKind.i64.wrap ((x : Int) - y + n) = (x : Int) - y + n ∧ Int.tmod ((x : Int) - y + n) n = (((x + n - y) % n : Nat) : Int) := by
  refine ⟨by rw [IntKind.wrap_i64]; omega, by rw [IntKind.wrap_i64]; omega, ?_⟩
  rw [show (x : Int) - y + n = ((x + n - y : Nat) : Int) from by omega]
  rfl
/-- The differences that were seen. -/
def Bl (H : Nat) (L : List Bool) (W : World) : Prop := L.length = 48 ∧ W.heap[H]? = some (.cells (L.map Value.bool).toArray 28 (0, 0))
theorem Bl_cell {H : Nat} {L : List Bool} {W : World} (h : Bl H L W) (i : Nat) (hi : i < 48) : W.cell? ⟨H, i, none⟩ = some (.bool (L.getD i false)) := by
  rw [blk_cell h.2]
  have := h.1
  simp [List.getD, List.getElem?_eq_getElem (show i < L.length by omega)]
theorem Bl_set {H : Nat} {L : List Bool} {W : World} (h : Bl H L W) (i : Nat) : Bl H (L.set i true) (W.setCell ⟨H, i, none⟩ (.bool true)) := by
  refine ⟨by simpa using h.1, ?_⟩
  have := blk_set h.2 i (.bool true)
  simpa using this
theorem Bl_drewN {H : Nat} {L : List Bool} {W : World} (h : Bl H L W) (m : Nat) : Bl H L (W.drewN m) := h
/-- What was seen when s i's pair (x, y) is next. -/
def Inv (n : Nat) (s : Nat → Nat) (i x y : Nat) (L : List Bool) : Prop :=
  ∀ i' d, i' < 2 → d < 24 → (L.getD (24 * i' + d) false = true ↔ ∃ x' y', x' < n ∧ y' < n ∧ (x' + n - y') % n = d ∧ (s i').testBit x' = true ∧ (s i').testBit y' = true ∧ (i' < i ∨ i' = i ∧ (x' < x ∨ x' = x ∧ y' < y)))
theorem Inv_start (n : Nat) (s : Nat → Nat) : Inv n s 0 0 0 (List.replicate 48 false) := by
  intro i' d h1 h2
  constructor
  · intro h
    exfalso
    simp only [List.getD, List.getElem?_replicate] at h
    split at h <;> cases h
  · rintro ⟨x', y', h3, h4, h5, h6, h7, h8⟩; omega
theorem Inv_next {n : Nat} {s : Nat → Nat} {i x y : Nat} {L : List Bool} (h : Inv n s i x y L) (hL : L.length = 48) (hn : n ≤ 24) (hi : i < 2) (hx : x < n) (hy : y < n) :
    Inv n s i x (y + 1) (if (s i).testBit x = true ∧ (s i).testBit y = true then L.set (24 * i + (x + n - y) % n) true else L) := by
  intro i' d h1 h2
  have hd : (x + n - y) % n < n := Nat.mod_lt _ (by omega)
  split
  · rename_i hb
    by_cases e : 24 * i + (x + n - y) % n = 24 * i' + d
    · obtain ⟨rfl, rfl⟩ : i' = i ∧ d = (x + n - y) % n := by omega
      constructor
      · intro _; exact ⟨x, y, hx, hy, rfl, hb.1, hb.2, by omega⟩
      · intro _
        have hl : 24 * i' + (x + n - y) % n < L.length := by omega
        simp [List.getD, List.getElem?_set, hl]
    · have : (L.set (24 * i + (x + n - y) % n) true).getD (24 * i' + d) false = L.getD (24 * i' + d) false := by simp only [List.getD, List.getElem?_set_ne e]
      rw [this, h i' d h1 h2]
      constructor
      · rintro ⟨x', y', h3, h4, h5, h6, h7, h8⟩; exact ⟨x', y', h3, h4, h5, h6, h7, by omega⟩
      · rintro ⟨x', y', h3, h4, h5, h6, h7, h8⟩
        refine ⟨x', y', h3, h4, h5, h6, h7, ?_⟩
        by_cases e2 : i' = i ∧ x' = x ∧ y' = y
        · obtain ⟨rfl, rfl, rfl⟩ := e2; omega
        · omega
  · rename_i hb
    rw [h i' d h1 h2]
    constructor
    · rintro ⟨x', y', h3, h4, h5, h6, h7, h8⟩; exact ⟨x', y', h3, h4, h5, h6, h7, by omega⟩
    · rintro ⟨x', y', h3, h4, h5, h6, h7, h8⟩
      refine ⟨x', y', h3, h4, h5, h6, h7, ?_⟩
      by_cases e2 : i' = i ∧ x' = x ∧ y' = y
      · obtain ⟨rfl, rfl, rfl⟩ := e2; exact absurd ⟨h6, h7⟩ hb
      · omega
theorem Inv_row {n : Nat} {s : Nat → Nat} {i x : Nat} {L : List Bool} (h : Inv n s i x n L) : Inv n s i (x + 1) 0 L := by
  intro i' d h1 h2
  rw [h i' d h1 h2]
  constructor
  · rintro ⟨x', y', h3, h4, h5, h6, h7, h8⟩; exact ⟨x', y', h3, h4, h5, h6, h7, by omega⟩
  · rintro ⟨x', y', h3, h4, h5, h6, h7, h8⟩; exact ⟨x', y', h3, h4, h5, h6, h7, by omega⟩
theorem Inv_two {n : Nat} {s : Nat → Nat} {i : Nat} {L : List Bool} (h : Inv n s i n 0 L) : Inv n s (i + 1) 0 0 L := by
  intro i' d h1 h2
  rw [h i' d h1 h2]
  constructor
  · rintro ⟨x', y', h3, h4, h5, h6, h7, h8⟩; exact ⟨x', y', h3, h4, h5, h6, h7, by omega⟩
  · rintro ⟨x', y', h3, h4, h5, h6, h7, h8⟩; exact ⟨x', y', h3, h4, h5, h6, h7, by omega⟩

theorem size_at (n a : Nat) (hn : n ≤ 24) (ha : a < 2 ^ n) : Tot (fun k => sackbutref02_Size.f k (a : Int)) (((bitsL n a).length : Nat) : Int) := by
  have h := size_pop a (p24 hn ha)
  rwa [pop_more n a ha 24 hn, pop_bits] at h
theorem prod_wrap (n a b : Nat) (hn : n ≤ 24) : ∃ P : Int, IntKind.i64.wrap ((((bitsL n a).length : Nat) : Int) * (((bitsL n b).length : Nat) : Int)) = P ∧ (P = n ↔ (bitsL n a).length * (bitsL n b).length = n) := by
  have l1 := bits_le n a
  have l2 := bits_le n b
  have l3 : (bitsL n a).length * (bitsL n b).length ≤ 24 * 24 := Nat.mul_le_mul (by omega) (by omega)
  refine ⟨(((bitsL n a).length * (bitsL n b).length : Nat) : Int), ?_, by omega⟩
  rw [← Int.natCast_mul, IntKind.wrap_i64]
  omega
theorem inv_dif {n a b : Nat} {L : List Bool} (hn : n ≤ 24) (h : Inv n (fun i => if i = 0 then a else b) 2 0 0 L) (i d : Nat) (hi : i < 2) (hd : d < n) : L.getD (24 * i + d) false = true ↔ Dif n (if i = 0 then a else b) d := by
  rw [h i d hi (by omega)]
  constructor
  · rintro ⟨x, y, h1, h2, h3, h4, h5, _⟩
    exact ⟨x, mem_bitsL.mpr ⟨h1, h4⟩, y, mem_bitsL.mpr ⟨h2, h5⟩, h3⟩
  · rintro ⟨x, hx, y, hy, e⟩
    exact ⟨x, y, (mem_bitsL.mp hx).1, (mem_bitsL.mp hy).1, e, (mem_bitsL.mp hx).2, (mem_bitsL.mp hy).2, .inl hi⟩
theorem fin_iff {n a b d : Nat} {r c : Bool} {L : List Bool} (h2 : 2 ≤ n) (hn : n ≤ 24) (hI : Inv n (fun i => if i = 0 then a else b) 2 0 0 L) (hc : c = true ↔ ∃ d', 1 ≤ d' ∧ d' < d ∧ L.getD d' false = true ∧ L.getD (24 + d') false = true) (hd : d = n) (hT : r = true ↔ Tile n a b) :
    r = true ↔ (c = false ∧ (bitsL n a).length * (bitsL n b).length = n) := by
  subst hd
  rw [hT, tile_iff (by omega)]
  have h0 := fun d' (h : d' < d) => inv_dif hn hI 0 d' (by omega) h
  have h1 := fun d' (h : d' < d) => inv_dif hn hI 1 d' (by omega) h
  simp only [Nat.mul_zero, Nat.zero_add, if_true, Nat.mul_one, Nat.one_ne_zero, if_false] at h0 h1
  refine and_congr_left (fun _ => ?_)
  constructor
  · intro h
    cases c with
    | false => rfl
    | true =>
      obtain ⟨d', h3, h4, h5, h6⟩ := hc.mp rfl
      exact absurd ⟨(h0 d' h4).mp h5, (h1 d' h4).mp h6⟩ (h d' h3 h4)
  · intro h d' h3 h4 h5
    have := hc.mpr ⟨d', h3, h4, (h0 d' h4).mpr h5.1, (h1 d' h4).mpr h5.2⟩
    rw [h] at this
    cases this
theorem index_l0 (l : List Int) (x : Int) (hl : l.length ≤ 1000) : ∀ m j, j + m = l.length → ∃ r, Tot (fun k => slices_Index_int_int.l0 k l x (l.length : Int) (j : Int)) r ∧ (r ≥ 0 ↔ x ∈ l.drop j) := by
  intro m
  induction m with
  | zero =>
    intro j hj
    refine ⟨-1, ⟨1, fun k hk => ?_⟩, ?_⟩
    · obtain ⟨k, rfl⟩ : ∃ k', k = k' + 1 := ⟨k - 1, by omega⟩
      show slices_Index_int_int.l0 (k + 1) _ _ _ _ = _
      rw [slices_Index_int_int.l0, if_neg (by omega)]
    · rw [List.drop_of_length_le (by omega)]
      simp
  | succ m ih =>
    intro j hj
    have hd := drop_get l j (by omega)
    by_cases h : x = rd l (j : Int)
    · refine ⟨(j : Int), ⟨1, fun k hk => ?_⟩, ?_⟩
      · obtain ⟨k, rfl⟩ : ∃ k', k = k' + 1 := ⟨k - 1, by omega⟩
        show slices_Index_int_int.l0 (k + 1) _ _ _ _ = _
        rw [slices_Index_int_int.l0, if_pos (by omega), if_pos (by omega), if_pos (by omega), if_pos h]
      · rw [hd, ← h]
        simp
    · obtain ⟨r, hr, hi⟩ := ih (j + 1) (by omega)
      refine ⟨r, hr.succ (fun k => ?_), ?_⟩
      · rw [slices_Index_int_int.l0, if_pos (by omega), if_pos (by omega), if_pos (by omega), if_neg h, w64 ((j : Int) + 1) (by omega) (by omega)]
        rfl
      · rw [hi, hd, List.mem_cons]
        simp [h]
theorem contains_tot (l : List Int) (x : Int) (hl : l.length ≤ 1000) : Tot (fun k => slices_Contains_int_int.f k l x) (decide (x ∈ l)) := by
  obtain ⟨r, hr, hi⟩ := index_l0 l x hl l.length 0 (by omega)
  have h := hr.bind (H := fun _ t => some (decide (t ≥ 0))) (u := decide (x ∈ l)) (Tot.of fun _ => by
    congr 1
    by_cases hx : x ∈ l
    · rw [decide_eq_true hx, decide_eq_true (hi.mpr hx)]
    · rw [decide_eq_false hx, decide_eq_false (fun h => hx (hi.mp h))])
  refine h.eq (fun k => ?_)
  unfold slices_Contains_int_int.f slices_Index_int_int.f
  rfl
theorem roots_at (n a : Nat) (h2 : 2 ≤ n) (hn : n ≤ 24) (hv : canon_circle_valid.f (n : Int) [(a : Int)] = some true) : Tot (fun k => canon_Roots.f k (n : Int) (a : Int)) (rootsL n (isR n a), 0) := by
  refine ((roots_tot (a : Int) n hn h2).bind (H := fun _ t => some (t, 0)) (Tot.of fun _ => rfl)).eq (fun k => ?_)
  unfold canon_Roots.f
  rw [hv, Option.bind_some, if_pos rfl]
theorem fill_contains {n a b : Nat} {r : Bool} (h2 : 2 ≤ n) (hn : n ≤ 24) (ha : a < 2 ^ n) (hb : b < 2 ^ n) (ha0 : a.testBit 0 = true) (hb0 : b.testBit 0 = true) (hT : r = true ↔ Tile n a b) (hva : canon_circle_valid.f (n : Int) [(a : Int)] = some true) (hvb : canon_circle_valid.f (n : Int) [(b : Int)] = some true) (hr : r = true) :
    ∃ la lb k1 k2, canon_Roots.f k1 (n : Int) (a : Int) = some (la, 0) ∧ canon_Roots.f k2 (n : Int) (b : Int) = some (lb, 0) ∧
      ∀ s : Nat, 2 ≤ s → s ≤ n → n % s = 0 → (∃ k, slices_Contains_int_int.f k la (s : Int) = some true) ∨ ((∃ k, slices_Contains_int_int.f k la (s : Int) = some false) ∧ ∃ k, slices_Contains_int_int.f k lb (s : Int) = some true) := by
  obtain ⟨k1, h3⟩ := (roots_at n a h2 hn hva).exists_
  obtain ⟨k2, h4⟩ := (roots_at n b h2 hn hvb).exists_
  refine ⟨_, _, k1, k2, h3, h4, fun s hs2 hsn hd => ?_⟩
  have hla : (rootsL n (isR n a)).length ≤ 1000 := by have := rl_length n (isR n a) (n - 1) 2; unfold rootsL; omega
  have hlb : (rootsL n (isR n b)).length ≤ 1000 := by have := rl_length n (isR n b) (n - 1) 2; unfold rootsL; omega
  have ca := (contains_tot (rootsL n (isR n a)) (s : Int) hla).exists_
  have cb := (contains_tot (rootsL n (isR n b)) (s : Int) hlb).exists_
  have ma : (s : Int) ∈ rootsL n (isR n a) ↔ isR n a s = true := rl_has n _ _ 2 s hs2 (by omega) hd
  have mb : (s : Int) ∈ rootsL n (isR n b) ↔ isR n b s = true := rl_has n _ _ 2 s hs2 (by omega) hd
  have hf := fill_roots n a b h2 hn ha hb ha0 hb0 (hT.mp hr) s (mem_divs.mpr ⟨hsn, hs2, hd⟩)
  by_cases h : (s : Int) ∈ rootsL n (isR n a)
  · rw [decide_eq_true h] at ca
    exact .inl ca
  · rw [decide_eq_false h] at ca
    refine .inr ⟨ca, ?_⟩
    rcases hf with hf | hf
    · exact absurd (ma.mpr hf) h
    · rwa [decide_eq_true (mb.mpr hf)] at cb

set_option maxHeartbeats 2000000 in
set_option maxRecDepth 100000 in
theorem fills_yes (n a b : Nat) (h2 : 2 ≤ n) (hn : n ≤ 24) (ha : a < 2 ^ n) (hb : b < 2 ^ n) (ha0 : a.testBit 0 = true) (hb0 : b.testBit 0 = true) (r : Bool) (K : Nat)
    (hr1 : canon_Tiles.f K (n : Int) (a : Int) (b : Int) = some (r, 0)) (hr2 : canon_Tiles.f K (n : Int) (b : Int) (a : Int) = some (r, 0)) (hT : r = true ↔ Tile n a b)
    (hra : sackbutref02_Rhythm.f (n : Int) (a : Int) = some true) (hrb : sackbutref02_Rhythm.f (n : Int) (b : Int) = some true) (hva : canon_circle_valid.f (n : Int) [(a : Int)] = some true) (hvb : canon_circle_valid.f (n : Int) [(b : Int)] = some true) (w : World) :
    Calls Try.prog 3 #[.int .i64 n, .int .i64 a, .int .i64 b] w fun e w' => e = .returned (.bool true) ∧ Below w.heap.size w w' := by
  replace hr1 := Aside0.mk hr1
  replace hr2 := Aside0.mk hr2
  replace hra := Aside0.mk hra
  replace hrb := Aside0.mk hrb
  replace hT := Aside0.mk hT
  replace ha0 := Aside0.mk ha0
  replace hb0 := Aside0.mk hb0
  replace hva := Aside0.mk hva
  replace hvb := Aside0.mk hvb
  go_enter Try.func3, Try.ntmps3
  go_wp2_with fail
  refine (canon_Tiles.calls K n a b r 0 _ hr1.out).mono ?_
  rintro e w2 ⟨rfl, hb2⟩
  replace hb2 := Aside0.mk hb2
  go_wp2_with fail
  refine (sackbutref02_Rhythm.calls _ _ _ _ hra.out).mono ?_
  rintro e w3 ⟨rfl, hD3⟩
  obtain ⟨m3, rfl⟩ := hD3
  go_wp2_with fail
  refine (sackbutref02_Rhythm.calls _ _ _ _ hrb.out).mono ?_
  rintro e w4 ⟨rfl, hD4⟩
  obtain ⟨m4, rfl⟩ := hD4
  go_wp2_with fail
  refine (canon_Tiles.calls K n b a r 0 _ hr2.out).mono ?_
  rintro e w5 ⟨rfl, hb5⟩
  replace hb5 := Aside0.mk hb5
  have hb0a : Below w.heap.size w (w2.drewN (m3 + m4)) := pw_below_drewN hb2.out _
  have hb0b : Below w.heap.size w w5 := hb0a.trans (hb5.out.mono hb0a.size)
  replace hb0b := Aside0.mk hb0b
  clear hb0a hb5 hb2
  obtain ⟨H, hH⟩ : ∃ H, w5.heap.size = H := ⟨_, rfl⟩
  have hHw : w.heap.size ≤ H := by rw [← hH]; exact hb0b.out.size
  replace hH := Aside0.mk hH
  go_wp2_with fail
  rw [hH.out]
  go_loopw [65] (fun v wr => ∃ (i : Nat) (L : List Bool), v = .int .i64 i ∧ i ≤ 2 ∧ Aside0 (Inv n (fun i => if i = 0 then a else b) i 0 0 L) ∧ Aside0 (Bl H L wr) ∧ Aside0 (Below w.heap.size w wr)) (fun v _ => (2 - intOf v).toNat)
  case atStart =>
    refine ⟨0, List.replicate 48 false, rfl, by omega, ⟨Inv_start n _⟩, ⟨⟨rfl, ?_⟩⟩, ⟨hb0b.out.alloc hb0b.out.size _⟩⟩
    rw [← hH.out]
    exact blk_new w5 _
  case round =>
    obtain ⟨i, L, rfl, hi, hI, hL, hB⟩ := hrel
    have h2' := h2
    by_cases h2 : i = 2
    · subst h2
      go_wp2
      go_loopw [15, 16] (fun v v' wr => ∃ (c : Bool) (d : Nat), v = .bool c ∧ v' = .int .i64 d ∧ 1 ≤ d ∧ d ≤ n ∧ Aside0 (c = true ↔ ∃ d', 1 ≤ d' ∧ d' < d ∧ L.getD d' false = true ∧ L.getD (24 + d') false = true) ∧ Aside0 (Bl H L wr) ∧ Aside0 (Below w.heap.size w wr)) (fun _ v _ => (n - intOf v).toNat)
      case atStart => exact ⟨false, 1, rfl, rfl, by omega, by omega, ⟨by constructor; (intro h; cases h); (rintro ⟨d', h1, h2, _⟩; omega)⟩, hL, hB⟩
      case round =>
        clear hL hB
        obtain ⟨c, d, rfl, rfl, hd1, hdn, hc, hL, hB⟩ := hrel
        by_cases hdn' : d = n
        · have hd3 : ¬ (d : Int) < (n : Int) := by omega
          have hrc := fin_iff h2' hn hI.out hc.out hdn' hT.out
          have hLf := Aside0.mk (fill_contains h2' hn ha hb ha0.out hb0.out hT.out hva.out hvb.out)
          clear hc hL
          obtain ⟨k1, hs1⟩ := (size_at n a hn ha).exists_
          obtain ⟨k2, hs2⟩ := (size_at n b hn hb).exists_
          obtain ⟨P, hP, hPn⟩ := prod_wrap n a b hn
          obtain ⟨la, hla⟩ : ∃ la : Int, (((bitsL n a).length : Nat) : Int) = la := ⟨_, rfl⟩
          obtain ⟨lb, hlb⟩ : ∃ lb : Int, (((bitsL n b).length : Nat) : Int) = lb := ⟨_, rfl⟩
          rw [hla, hlb] at hP
          rw [hla] at hs1
          rw [hlb] at hs2
          clear hla hlb
          replace hs1 := Aside0.mk hs1
          replace hs2 := Aside0.mk hs2
          replace hrc := Aside0.mk hrc
          replace hPn := Aside0.mk hPn
          cases c with
          | true =>
            obtain rfl : r = false := by
              cases r with
              | false => rfl
              | true => have := (hrc.out.mp rfl).1; cases this
            go_wp2_with fail
            refine (sackbutlaw02_awake.calls 100 true _ awake_ok).mono ?_
            rintro e w7 ⟨rfl, hb7⟩
            replace hb7 := Aside0.mk hb7
            go_wp2
            go_ret
            exact ⟨rfl, below_step hB.out hb7.out⟩
          | false =>
            cases hr : r with
            | false =>
              have hPf : (P == (n : Int)) = false := by
                rw [beq_eq_false_iff_ne]
                intro h
                have := hrc.out.mpr ⟨rfl, hPn.out.mp h⟩
                rw [hr] at this; cases this
              have hPg : ¬ P = (n : Int) := by simpa using hPf
              subst hr
              go_wp2_with fail
              refine (sackbutref02_Size.calls _ _ _ _ hs1.out).mono ?_
              rintro e w6 ⟨rfl, hD6⟩
              obtain ⟨m6, rfl⟩ := hD6
              go_wp2_with fail
              refine (sackbutref02_Size.calls _ _ _ _ hs2.out).mono ?_
              rintro e w6 ⟨rfl, hD6⟩
              obtain ⟨m7, rfl⟩ := hD6
              go_wp2_with fail
              refine (sackbutlaw02_awake.calls 100 true _ awake_ok).mono ?_
              rintro e w7 ⟨rfl, hb7⟩
              replace hb7 := Aside0.mk hb7
              go_wp2
              go_ret
              exact ⟨rfl, below_step (pw_below_drewN hB.out _) hb7.out⟩
            | true =>
              have hPf : P = (n : Int) := hPn.out.mpr (hrc.out.mp hr).2
              clear hPn
              subst hPf
              have hLg := hLf.out hr
              subst hr
              clear hLf
              obtain ⟨la, lb, kr1, kr2, hr3, hr4, hct⟩ := hLg
              replace hr3 := Aside0.mk hr3
              replace hr4 := Aside0.mk hr4
              replace hct := Aside0.mk hct
              go_wp2_with fail
              refine (sackbutref02_Size.calls _ _ _ _ hs1.out).mono ?_
              rintro e w6 ⟨rfl, hD6⟩
              obtain ⟨m6, rfl⟩ := hD6
              go_wp2_with fail
              refine (sackbutref02_Size.calls _ _ _ _ hs2.out).mono ?_
              rintro e w6 ⟨rfl, hD6⟩
              obtain ⟨m7, rfl⟩ := hD6
              go_wp2_with fail
              refine (canon_Roots.calls _ _ _ _ _ _ hr3.out).mono ?_
              rintro e w7 ⟨v7, rfl, hR7, hb7⟩
              obtain ⟨A7, c7, rfl⟩ := Kd.R_slice hR7
              replace hR7 := Aside0.mk (Kd.R_reads' hR7)
              replace hb7 := Aside0.mk hb7
              go_wp2_with fail
              refine (canon_Roots.calls _ _ _ _ _ _ hr4.out).mono ?_
              rintro e w8 ⟨v8, rfl, hR8, hb8⟩
              obtain ⟨A8, c8, rfl⟩ := Kd.R_slice hR8
              replace hR8 := Aside0.mk (Kd.R_reads' hR8)
              replace hb8 := Aside0.mk hb8
              go_wp2
              go_loopw [21] (fun v wr => ∃ (s : Nat), v = .int .i64 s ∧ 2 ≤ s ∧ s ≤ n + 1 ∧ Aside0 (Drawn0 w8 wr)) (fun v _ => (n + 1 - intOf v).toNat)
              case atStart => exact ⟨2, rfl, by omega, by omega, ⟨Drawn0.refl _⟩⟩
              case round =>
                obtain ⟨s, rfl, hs2, hsn, HD⟩ := hrel
                obtain ⟨mr, rfl⟩ := HD.out
                by_cases hsn' : s = n + 1
                · have hs3 : ¬ (s : Int) ≤ (n : Int) := by omega
                  go_wp2_with fail
                  refine (sackbutlaw02_awake.calls 100 true _ awake_ok).mono ?_
                  rintro e w9 ⟨rfl, hb9⟩
                  replace hb9 := Aside0.mk hb9
                  go_wp2
                  go_ret
                  exact ⟨rfl, below_step (pw_below_drewN (below_step (below_step (pw_below_drewN hB.out _) hb7.out) hb8.out) _) hb9.out⟩
                · have hs3 : (s : Int) ≤ (n : Int) := by omega
                  have hs4 : ¬ s = 0 := by omega
                  have HC7 := Aside0.mk (Kd.C_drewN (Kd.C_below hR7.out.2.2 hb8.out) mr)
                  have HC8 := Aside0.mk (Kd.C_drewN hR8.out.2.2 mr)
                  obtain ⟨q, hq⟩ : ∃ q : Int, Int.tmod (n : Int) (s : Int) = q := ⟨_, rfl⟩
                  by_cases hd : n % s = 0
                  · have hq0 : q = 0 := by rw [← hq, tmod_nat, hd]; rfl
                    subst hq0
                    rcases hct.out s hs2 (by omega) hd with ⟨k, hk⟩ | ⟨⟨k, hk⟩, k', hk'⟩
                    · replace hk := Aside0.mk hk
                      go_wp2_with fail
                      refine (slices_Contains_int_int.calls k A7 c7 la s true _ HC7.out hR7.out.2.1 hk.out).mono ?_
                      rintro e w9 ⟨rfl, hD9⟩
                      obtain ⟨m9, rfl⟩ := hD9
                      go_wp2
                      go_roundw
                      case measure => simp [intOf]; omega
                      case rel => exact ⟨s + 1, by go_num, by omega, by omega, ⟨⟨_, rfl⟩⟩⟩
                    · replace hk := Aside0.mk hk
                      replace hk' := Aside0.mk hk'
                      go_wp2_with fail
                      refine (slices_Contains_int_int.calls k A7 c7 la s false _ HC7.out hR7.out.2.1 hk.out).mono ?_
                      rintro e w9 ⟨rfl, hD9⟩
                      obtain ⟨m9, rfl⟩ := hD9
                      go_wp2_with fail
                      refine (slices_Contains_int_int.calls k' A8 c8 lb s true _ (Kd.C_drewN hR8.out.2.2 _) hR8.out.2.1 hk'.out).mono ?_
                      rintro e w9 ⟨rfl, hD9⟩
                      obtain ⟨m10, rfl⟩ := hD9
                      go_wp2
                      go_roundw
                      case measure => simp [intOf]; omega
                      case rel => exact ⟨s + 1, by go_num, by omega, by omega, ⟨⟨_, rfl⟩⟩⟩
                  · have hq0 : ¬ q = 0 := by rw [← hq, tmod_nat]; omega
                    go_wp2
                    go_roundw
                    case measure => simp [intOf]; omega
                    case rel => exact ⟨s + 1, by go_num, by omega, by omega, ⟨⟨_, rfl⟩⟩⟩
        · have hd3 : (d : Int) < (n : Int) := by omega
          have hd4 : (d : Int) < 24 := by omega
          have hd5 : d < 24 := by omega
          have f0 := blk_frozen hL.out.2
          have hc0 := Bl_cell hL.out d (by omega)
          have hc1 := Bl_cell hL.out (24 + d) (by omega)
          obtain ⟨e0, he0⟩ : ∃ e0, L.getD d false = e0 := ⟨_, rfl⟩
          obtain ⟨e1, he1⟩ : ∃ e1, L.getD (24 + d) false = e1 := ⟨_, rfl⟩
          rw [he0] at hc0
          rw [he1] at hc1
          replace he0 := Aside0.mk he0
          replace he1 := Aside0.mk he1
          have hcn : (Bool.or c (Bool.and e0 e1) = true ↔ ∃ d', 1 ≤ d' ∧ d' < d + 1 ∧ L.getD d' false = true ∧ L.getD (24 + d') false = true) := by
            rw [Bool.or_eq_true, Bool.and_eq_true, hc.out, ← he0.out, ← he1.out]
            constructor
            · rintro (⟨d', h1, h2, h3⟩ | h)
              · exact ⟨d', h1, by omega, h3⟩
              · exact ⟨d, hd1, by omega, h⟩
            · rintro ⟨d', h1, h2, h3⟩
              by_cases e : d' = d
              · subst e; exact .inr h3
              · exact .inl ⟨d', h1, by omega, h3⟩
          replace hcn := Aside0.mk hcn
          cases c with
          | true =>
            go_wp2
            go_roundw
            case measure => simp [intOf]; omega
            case rel => exact ⟨true, d + 1, rfl, by go_num, by omega, by omega, ⟨by simpa using hcn.out⟩, hL, hB⟩
          | false =>
            cases e0 with
            | false =>
              go_wp2
              go_roundw
              case measure => simp [intOf]; omega
              case rel => exact ⟨false, d + 1, rfl, by go_num, by omega, by omega, ⟨by simpa using hcn.out⟩, hL, hB⟩
            | true =>
              go_wp2
              go_roundw
              case measure => simp [intOf]; omega
              case rel => exact ⟨e1, d + 1, rfl, by go_num, by omega, by omega, ⟨by simpa using hcn.out⟩, hL, hB⟩
    · rcases (show i = 0 ∨ i = 1 by omega) with rfl | rfl
      · have hix := idx0 (a : Int) (b : Int)
        go_wp2
        clear hix
        go_loopw [70] (fun v wr => ∃ (x : Nat) (L : List Bool), v = .int .i64 x ∧ x ≤ n ∧ Aside0 (Inv n (fun i => if i = 0 then a else b) 0 x 0 L) ∧ Aside0 (Bl H L wr) ∧ Aside0 (Below w.heap.size w wr)) (fun v _ => (n - intOf v).toNat)
        case atStart => exact ⟨0, L, rfl, by omega, hI, hL, hB⟩
        case round =>
          clear hI hL hB
          obtain ⟨x, L, rfl, hx, hI, hL, hB⟩ := hrel
          by_cases hxn : x = n
          · subst hxn
            go_wp2
            go_roundw
            case measure => simp [intOf]
            case rel => exact ⟨1, L, rfl, by omega, ⟨Inv_two hI.out⟩, hL, hB⟩
          · have hx1 : (x : Int) < (n : Int) := by omega
            go_wp2
            go_loopw [74] (fun v wr => ∃ (y : Nat) (L : List Bool), v = .int .i64 y ∧ y ≤ n ∧ Aside0 (Inv n (fun i => if i = 0 then a else b) 0 x y L) ∧ Aside0 (Bl H L wr) ∧ Aside0 (Below w.heap.size w wr)) (fun v _ => (n - intOf v).toNat)
            case atStart => exact ⟨0, L, rfl, by omega, hI, hL, hB⟩
            case round =>
              clear hI hL hB
              obtain ⟨y, L, rfl, hy, hI, hL, hB⟩ := hrel
              by_cases hyn : y = n
              · subst hyn
                go_wp2
                go_roundw
                case measure => simp [intOf]; omega
                case rel => exact ⟨x + 1, L, by go_num, by omega, ⟨Inv_row hI.out⟩, hL, hB⟩
              · have hy1 : (y : Int) < (n : Int) := by omega
                have ex := bitI a x (p24 hn ha) (by omega)
                have ey := bitI a y (p24 hn ha) (by omega)
                cases hbx : a.testBit x with
                | false =>
                  rw [hbx] at ex
                  replace ex : Go.bits .and .i64 ((a : Int) / 2 ^ x) 1 = 0 := ex
                  replace hbx := Aside0.mk hbx
                  clear ey
                  go_wp2
                  go_roundw
                  case measure => simp [intOf]; omega
                  case rel => exact ⟨y + 1, L, by go_num, by omega, ⟨by have := Inv_next hI.out hL.out.1 hn (by omega) (by omega) (show y < n by omega); rwa [if_neg (by intro h; have h := h.1; rw [show (if 0 = 0 then a else b) = a from rfl, hbx.out] at h; cases h)] at this⟩, hL, hB⟩
                | true =>
                  cases hby : a.testBit y with
                  | false =>
                    rw [hbx] at ex
                    rw [hby] at ey
                    replace ex : Go.bits .and .i64 ((a : Int) / 2 ^ x) 1 = 1 := ex
                    replace ey : Go.bits .and .i64 ((a : Int) / 2 ^ y) 1 = 0 := ey
                    replace hbx := Aside0.mk hbx
                    replace hby := Aside0.mk hby
                    go_wp2
                    go_roundw
                    case measure => simp [intOf]; omega
                    case rel => exact ⟨y + 1, L, by go_num, by omega, ⟨by have := Inv_next hI.out hL.out.1 hn (by omega) (by omega) (show y < n by omega); rwa [if_neg (by intro h; have h := h.2; rw [show (if 0 = 0 then a else b) = a from rfl, hby.out] at h; cases h)] at this⟩, hL, hB⟩
                  | true =>
                    rw [hbx] at ex
                    rw [hby] at ey
                    replace ex : Go.bits .and .i64 ((a : Int) / 2 ^ x) 1 = 1 := ex
                    replace ey : Go.bits .and .i64 ((a : Int) / 2 ^ y) 1 = 1 := ey
                    replace hbx := Aside0.mk hbx
                    replace hby := Aside0.mk hby
                    obtain ⟨q1, q2, q3⟩ := difI n x y hn (by omega) (by omega)
                    have hdn : (x + n - y) % n < n := Nat.mod_lt _ (by omega)
                    obtain ⟨d, hd⟩ : ∃ d, (x + n - y) % n = d := ⟨_, rfl⟩
                    rw [hd] at q3 hdn
                    replace hd := Aside0.mk hd
                    have hd1 : (d : Int) < 24 := by omega
                    have hnz : ¬ n = 0 := by omega
                    have hd2 : d < 24 := by omega
                    have f0 := blk_frozen hL.out.2
                    have hc0 := Bl_cell hL.out (d) (by omega)
                    go_wp2
                    go_still_tail 10, (by kernel_rfl)
                    change wpList _ _ _ _ _ wr.drew
                    go_wp2
                    refine ⟨?_, ?measure⟩
                    (repeat apply Exists.intro)
                    refine ⟨?rel, rfl⟩
                    case measure => simp [intOf]; omega
                    case rel => exact ⟨y + 1, L.set (24 * 0 + d) true, by go_num, by omega, ⟨by have := Inv_next hI.out hL.out.1 hn (by omega) (by omega) (show y < n by omega); rwa [if_pos ⟨hbx.out, hby.out⟩, hd.out] at this⟩, ⟨by have h := Bl_set (W := wr) hL.out (24 * 0 + d); simp only [Nat.mul_zero, Nat.zero_add, Nat.mul_one] at h ⊢; exact h⟩, ⟨(hB.out.setCell (by simpa using hHw) _).drew⟩⟩
      · have hix := idx1 (a : Int) (b : Int)
        go_wp2
        clear hix
        go_loopw [70] (fun v wr => ∃ (x : Nat) (L : List Bool), v = .int .i64 x ∧ x ≤ n ∧ Aside0 (Inv n (fun i => if i = 0 then a else b) 1 x 0 L) ∧ Aside0 (Bl H L wr) ∧ Aside0 (Below w.heap.size w wr)) (fun v _ => (n - intOf v).toNat)
        case atStart => exact ⟨0, L, rfl, by omega, hI, hL, hB⟩
        case round =>
          clear hI hL hB
          obtain ⟨x, L, rfl, hx, hI, hL, hB⟩ := hrel
          by_cases hxn : x = n
          · subst hxn
            go_wp2
            go_roundw
            case measure => simp [intOf]
            case rel => exact ⟨2, L, rfl, by omega, ⟨Inv_two hI.out⟩, hL, hB⟩
          · have hx1 : (x : Int) < (n : Int) := by omega
            go_wp2
            go_loopw [74] (fun v wr => ∃ (y : Nat) (L : List Bool), v = .int .i64 y ∧ y ≤ n ∧ Aside0 (Inv n (fun i => if i = 0 then a else b) 1 x y L) ∧ Aside0 (Bl H L wr) ∧ Aside0 (Below w.heap.size w wr)) (fun v _ => (n - intOf v).toNat)
            case atStart => exact ⟨0, L, rfl, by omega, hI, hL, hB⟩
            case round =>
              clear hI hL hB
              obtain ⟨y, L, rfl, hy, hI, hL, hB⟩ := hrel
              by_cases hyn : y = n
              · subst hyn
                go_wp2
                go_roundw
                case measure => simp [intOf]; omega
                case rel => exact ⟨x + 1, L, by go_num, by omega, ⟨Inv_row hI.out⟩, hL, hB⟩
              · have hy1 : (y : Int) < (n : Int) := by omega
                have ex := bitI b x (p24 hn hb) (by omega)
                have ey := bitI b y (p24 hn hb) (by omega)
                cases hbx : b.testBit x with
                | false =>
                  rw [hbx] at ex
                  replace ex : Go.bits .and .i64 ((b : Int) / 2 ^ x) 1 = 0 := ex
                  replace hbx := Aside0.mk hbx
                  clear ey
                  go_wp2
                  go_roundw
                  case measure => simp [intOf]; omega
                  case rel => exact ⟨y + 1, L, by go_num, by omega, ⟨by have := Inv_next hI.out hL.out.1 hn (by omega) (by omega) (show y < n by omega); rwa [if_neg (by intro h; have h := h.1; rw [show (if 1 = 0 then a else b) = b from rfl, hbx.out] at h; cases h)] at this⟩, hL, hB⟩
                | true =>
                  cases hby : b.testBit y with
                  | false =>
                    rw [hbx] at ex
                    rw [hby] at ey
                    replace ex : Go.bits .and .i64 ((b : Int) / 2 ^ x) 1 = 1 := ex
                    replace ey : Go.bits .and .i64 ((b : Int) / 2 ^ y) 1 = 0 := ey
                    replace hbx := Aside0.mk hbx
                    replace hby := Aside0.mk hby
                    go_wp2
                    go_roundw
                    case measure => simp [intOf]; omega
                    case rel => exact ⟨y + 1, L, by go_num, by omega, ⟨by have := Inv_next hI.out hL.out.1 hn (by omega) (by omega) (show y < n by omega); rwa [if_neg (by intro h; have h := h.2; rw [show (if 1 = 0 then a else b) = b from rfl, hby.out] at h; cases h)] at this⟩, hL, hB⟩
                  | true =>
                    rw [hbx] at ex
                    rw [hby] at ey
                    replace ex : Go.bits .and .i64 ((b : Int) / 2 ^ x) 1 = 1 := ex
                    replace ey : Go.bits .and .i64 ((b : Int) / 2 ^ y) 1 = 1 := ey
                    replace hbx := Aside0.mk hbx
                    replace hby := Aside0.mk hby
                    obtain ⟨q1, q2, q3⟩ := difI n x y hn (by omega) (by omega)
                    have hdn : (x + n - y) % n < n := Nat.mod_lt _ (by omega)
                    obtain ⟨d, hd⟩ : ∃ d, (x + n - y) % n = d := ⟨_, rfl⟩
                    rw [hd] at q3 hdn
                    replace hd := Aside0.mk hd
                    have hd1 : (d : Int) < 24 := by omega
                    have hnz : ¬ n = 0 := by omega
                    have hd2 : d < 24 := by omega
                    have f0 := blk_frozen hL.out.2
                    have hc0 := Bl_cell hL.out (24 + d) (by omega)
                    go_wp2
                    go_still_tail 10, (by kernel_rfl)
                    change wpList _ _ _ _ _ wr.drew
                    go_wp2
                    refine ⟨?_, ?measure⟩
                    (repeat apply Exists.intro)
                    refine ⟨?rel, rfl⟩
                    case measure => simp [intOf]; omega
                    case rel => exact ⟨y + 1, L.set (24 * 1 + d) true, by go_num, by omega, ⟨by have := Inv_next hI.out hL.out.1 hn (by omega) (by omega) (show y < n by omega); rwa [if_pos ⟨hbx.out, hby.out⟩, hd.out] at this⟩, ⟨by have h := Bl_set (W := wr) hL.out (24 * 1 + d); simp only [Nat.mul_zero, Nat.zero_add, Nat.mul_one] at h ⊢; exact h⟩, ⟨(hB.out.setCell (by simpa using hHw) _).drew⟩⟩

theorem fills_calls (n a b : Int) (w : World) : Calls Try.prog 3 #[.int .i64 n, .int .i64 a, .int .i64 b] w fun e w' => e = .returned (.bool true) ∧ Below w.heap.size w w' := by
  rcases rhythm_cases n a with ⟨h1, h2⟩ | ⟨h1, h2, m, x, rfl, rfl, h3, h4, h5, h6⟩
  · refine fills_no n a b w ?_
    simp only [List.any_cons, Bool.not_or, Bool.and_assoc] at h2 ⊢
    revert h2
    cases decide (2 ≤ n) <;> cases decide (n ≤ 24) <;> cases badR n a <;> simp
  · rcases rhythm_cases m b with ⟨k1, k2⟩ | ⟨k1, k2, m', y, hm, rfl, k3, k4, k5, k6⟩
    · refine fills_no m x b w ?_
      simp only [List.any_cons, Bool.not_or, Bool.and_assoc] at k2 ⊢
      revert k2
      cases decide ((2 : Int) ≤ m) <;> cases decide ((m : Int) ≤ 24) <;> cases badR m b <;> simp
    · obtain rfl : m = m' := by omega
      have v2 : canon_circle_valid.f (m : Int) [(x : Int), (y : Int)] = some true := by rw [valid_eq _ _ (by simp)]; simp [h2, k2]; omega
      have v2' : canon_circle_valid.f (m : Int) [(y : Int), (x : Int)] = some true := by rw [valid_eq _ _ (by simp)]; simp [h2, k2]; omega
      have va : canon_circle_valid.f (m : Int) [(x : Int)] = some true := by rw [valid_eq _ _ (by simp)]; simp [h2]; omega
      have vb : canon_circle_valid.f (m : Int) [(y : Int)] = some true := by rw [valid_eq _ _ (by simp)]; simp [k2]; omega
      obtain ⟨r, hr, hT⟩ := tiles_tot m x y h3 h4 h5 k5
      obtain ⟨r', hr', hT'⟩ := tiles_tot m y x h3 h4 k5 h5
      have e : r' = r := by
        have : r' = true ↔ r = true := by rw [hT, hT']; exact ⟨Tile.symm, Tile.symm⟩
        cases r <;> cases r' <;> simp_all
      subst e
      obtain ⟨K1, hr⟩ := hr
      obtain ⟨K2, hr'⟩ := hr'
      dsimp only at hr hr'
      refine fills_yes m x y h3 h4 h5 k5 h6 k6 r' (max K1 K2) ?_ ?_ hT h1 k1 va vb w
      · unfold canon_Tiles.f
        rw [v2, Option.bind_some, if_pos rfl, hr _ (by omega)]
        rfl
      · unfold canon_Tiles.f
        rw [v2', Option.bind_some, if_pos rfl, hr' _ (by omega)]
        rfl
end Go.Proofs.Ytknlablmkcabkaa.Fw
