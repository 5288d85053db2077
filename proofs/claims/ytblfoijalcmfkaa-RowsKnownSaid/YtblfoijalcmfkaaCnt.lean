/- Count, First and List by the search. -/
import Derived.Test.YtblfoijalcmfkaaAll
import Derived.Test.YtblfoijalcmfkaaCln
import Derived.Deep.RegionHeld3
import Derived.Deep.AppendLies
import Derived.Deep.RegionLaw
namespace Go.Proofs.Ytblfoijalcmfkaa.Hand
open Go.RowKit Go.Shelf Go.Proofs.YtblfoijalcmfkaaW.PrintWords Go.Proofs.YtblfoijalcmfkaaW.PrintLast Go.Proofs.YtblfoijalcmfkaaW.PrintMore Go.Proofs.YtblfoijalcmfkaaHnd
set_option linter.unusedVariables false
set_option linter.unusedSimpArgs false

theorem wrap_add (a : Int) : wrap64 (wrap64 a + 1) = wrap64 (a + 1) := by unfold wrap64; omega
theorem grown_below {B : Nat} {w0 W W' : World} (h : Below B w0 W) (hg : W.grownBy W' none) (hB : B ≤ W.heap.size) : Below B w0 W' := h.grown hg hB (by simp)

/-! ### Count -/
def JC (w0 : World) (B : Nat) (pre : List (List Int)) (W : World) : Prop := Below w0.heap.size w0 W ∧ W.heap[B]? = some (.cells #[.int .i64 (wrap64 (pre.length : Int))] 3 (0, 0))
theorem JC_step (w0 : World) (B : Nat) : ∀ pre W W', JC w0 B pre W → W.grownBy W' none → JC w0 B pre W' := fun pre W W' h hg => ⟨grown_below h.1 hg h.1.size, blk_grown h.2 hg (by simp)⟩
theorem count1_enters : Enters Try.prog 31 := enters_of Try.func31 (by kernel_rfl) rfl
set_option maxHeartbeats 400000 in
theorem count1_more (w0 : World) (B n N : Nat) (hB : w0.heap.size ≤ B) : MoreAt 31 B n N (JC w0 B) (fun _ _ => False) := by
  intro pre l A c W hJ hN hl hc hr hA
  obtain ⟨h1, h2⟩ := hJ
  have a0 := blk_cell h2 0
  have f0 := blk_frozen h2
  simp at a0
  have HB := Aside0.mk h1
  have H2 := Aside0.mk h2
  clear h1 h2 hr hA
  go_enter Try.func31, Try.ntmps31
  go_wp2
  go_ret
  refine .inl ⟨rfl, ⟨HB.out.setCell hB _, ?_⟩, Kt.set _ _ _ _⟩
  have := blk_set H2.out 0 (.int .i64 (wrap64 ((pre ++ [l]).length : Int)))
  simp only [List.length_append, List.length_singleton] at this ⊢
  rw [wrap_add]
  simpa using this

set_option maxHeartbeats 400000 in
set_option maxRecDepth 100000 in
theorem from_calls (n : Nat) (hn : 2 ≤ n) (hn1 : n ≤ 10) (w : World) :
    Calls Try.prog 29 #[.int .i64 (n : Int)] w fun e w' => ∃ g c', e = .returned (.agg #[.int .i64 (n : Int), .slice (some ⟨g, 0, none⟩) 1 c', .int .i64 1, .int .i64 0]) ∧ w.heap.size ≤ g ∧ (∃ cs, w'.heap[g]? = some (.cells cs 3 (0, 0))) ∧ 1 ≤ c' ∧ Kd.C (Kd.int .i64) w' (some ⟨g, 0, none⟩) 1 [0] ∧ Below w.heap.size w w' := by
  have e1 : bits .or .i64 0 (wrap64 1) = 1 := by kernel_rfl
  have HB0 := Aside0.mk (blk_new w (.cells #[.int .i64 0, .slice none 0 0, .int .i64 0, .int .i64 0] 56))
  go_enter Try.func29, Try.ntmps29
  go_wp2_with fail
  refine (add_first (n : Int) 0 0 0 _ (by omega) (by omega) (by omega) (by omega) (by decide)).mono ?_
  rintro e w1 ⟨g, c', rfl, hg, hcs, hc', hC, hb⟩
  have hb2 := blk_below HB0.out hb (by simp)
  have hB : Below w.heap.size w w1 := ((Below.refl _ _).alloc (Nat.le_refl _) _).trans (hb.mono (by simp))
  have a0 := blk_cell hb2 0
  have a1 := blk_cell hb2 1
  have a2 := blk_cell hb2 2
  have a3 := blk_cell hb2 3
  have f0 := blk_frozen hb2
  have hlt := blk_lt hb2
  simp at a0 a1 a2 a3
  replace hb2 := Aside0.mk hb2
  replace hB := Aside0.mk hB
  replace hC := Aside0.mk hC
  replace hcs := Aside0.mk hcs
  clear hb
  have hg' := Aside0.mk hg
  go_wp2
  have hb' := blk_alloc (blk_set4 (a' := .int .i64 (n : Int)) (b' := .slice (some ⟨g, 0, none⟩) 1 c') (c' := .int .i64 1) (d' := .int .i64 0) hb2.out) (.cells #[.int .i64 (n : Int), .slice (some ⟨g, 0, none⟩) 1 c', .int .i64 1, .int .i64 0] 56)
  have d0 := blk_cell hb' 0
  have d1 := blk_cell hb' 1
  have d2 := blk_cell hb' 2
  have d3 := blk_cell hb' 3
  obtain ⟨cs, hcs⟩ := hcs.out
  have hgw : w.heap.size + 1 ≤ g := by have := hg'.out; simpa using this
  have hK := (Kt.set4 w1 w.heap.size (.int .i64 (n : Int)) (.slice (some ⟨g, 0, none⟩) 1 c') (.int .i64 1) (.int .i64 0)).trans (Kt.alloc _ _ (.cells #[.int .i64 (n : Int), .slice (some ⟨g, 0, none⟩) 1 c', .int .i64 1, .int .i64 0] 56))
  exact bodyPost_ret (v := .agg #[.int .i64 (n : Int), .slice (some ⟨g, 0, none⟩) 1 c', .int .i64 1, .int .i64 0]) (by simp [results, Try.results29, go_sem, d0, d1, d2, d3]) rfl
    ⟨g, c', rfl, by omega, ⟨cs, hK.blk _ _ _ _ hcs (by decide) (by omega)⟩, hc', C_kt hC.out hK (by intro ad e; cases e; exact ⟨by simp; omega, cs, hcs⟩), (((((hB.out.setCell (by simp) _).setCell (by simp) _).setCell (by simp) _).setCell (by simp) _).alloc (by simp; omega) _)⟩

/-! ### Count -/
theorem rows_isLength_yes (n : Int) (w : World) (h1 : 2 ≤ n) (h2 : n ≤ 10) : Calls Try.prog 28 #[.int .i64 n] w fun e w' => e = .returned (.bool true) ∧ w' = w := by
  go_enter Try.func28, Try.ntmps28
  go_wp2
  go_ret
  exact ⟨by simp, rfl⟩

set_option maxHeartbeats 400000 in
theorem Count_calls (n : Nat) (hn : 2 ≤ n) (hn1 : n ≤ 10) (w : World) :
    Calls Try.prog 7 #[.int .i64 (n : Int)] w fun e w' => e = .returned (.tuple #[.int .i64 (wrap64 ((allR n (n - 1) [] 0 1 0).length : Int)), .int .i64 0]) ∧ Below w.heap.size w w' := by
  have hmf : ∀ (fn : Fn) (first cap : Array Value) (w : World), (Instr.makeFunc fn first cap).run Try.prog w = .ok (.func fn first cap) w := fun _ _ _ _ => rfl
  have H0 := Aside0.mk (blk_new w (.cells #[.int .i64 0] 3))
  go_enter Try.func7, Try.ntmps7
  go_wp2_with fail
  refine (rows_isLength_yes _ _ (by omega) (by omega)).mono ?_
  rintro e w1 ⟨rfl, rfl⟩
  go_wp2_with fail
  refine (from_calls n hn hn1 _).mono ?_
  rintro e w2 ⟨g, c', rfl, hg, hcs, hc', hC, hb⟩
  have hB : Below w1.heap.size w1 w2 := ((Below.refl _ _).alloc (Nat.le_refl _) _).trans (hb.mono (by simp))
  have h0 := blk_below H0.out hb (by simp)
  have hlt := blk_lt h0
  have HA := Aside0.mk (all_calls 31 w1.heap.size n 1000000000 hn hn1 count1_enters (JC w1 w1.heap.size) (fun _ _ => False) (count1_more w1 w1.heap.size n _ (Nat.le_refl _)) (JC_step _ _) (n - 1) [] [] 0 1 0 (some ⟨g, 0, none⟩) c' w2 ⟨hB, by simpa [wrap64] using h0⟩ (by simp; omega) (by simpa using hc') hC (by omega) (by omega) (by intro ad e; cases e; exact ⟨by simp at hg; simp; omega, hcs⟩) hlt (by simpa using allR_le9 n hn1 hn [] 0 1 0))
  clear hC hcs hg hb hB h0 hlt
  go_wp2_with fail
  refine HA.out.mono ?_
  clear HA
  rintro e w3 (⟨rfl, ⟨h1, h2⟩, _⟩ | ⟨_, _, _, h⟩)
  · have a0 := blk_cell h2 0
    simp at a0
    go_wp2
    go_ret2
    exact ⟨rfl, h1⟩
  · exact h.elim


/-! ### First -/
def JF (w0 : World) (B : Nat) (pre : List (List Int)) (W : World) : Prop := pre = [] ∧ Below w0.heap.size w0 W ∧ W.heap[B]? = some (.cells #[.slice none 0 0] 25 (0, 0))
def JFx (w0 : World) (B n : Nat) (rows : List (List Int)) (W : World) : Prop := ∃ l A c, rows = [l] ∧ l.length = n ∧ l.length ≤ c ∧ Below w0.heap.size w0 W ∧ W.heap[B]? = some (.cells #[.slice A n c] 25 (0, 0)) ∧ Kd.C (Kd.int .i64) W A n l
theorem JF_step (w0 : World) (B : Nat) : ∀ pre W W', JF w0 B pre W → W.grownBy W' none → JF w0 B pre W' := fun pre W W' h hg => ⟨h.1, grown_below h.2.1 hg h.2.1.size, blk_grown h.2.2 hg (by simp)⟩
theorem first1_enters : Enters Try.prog 50 := enters_of Try.func50 (by kernel_rfl) rfl
set_option maxHeartbeats 400000 in
theorem first1_more (w0 : World) (B n N : Nat) (hB : w0.heap.size ≤ B) (hn : 0 < n) : MoreAt 50 B n N (JF w0 B) (JFx w0 B n) := by
  intro pre l A c W hJ hN hl hc hr hA
  obtain ⟨rfl, h1, h2⟩ := hJ
  have a0 := blk_cell h2 0
  have f0 := blk_frozen h2
  simp at a0
  have HB := Aside0.mk h1
  have H2 := Aside0.mk h2
  have HR := Aside0.mk hr
  have HL := Aside0.mk hl
  have HA := Aside0.mk hA
  clear h1 h2 hr hl hA
  go_enter Try.func50, Try.ntmps50
  go_wp2
  go_ret
  have hb := blk_set H2.out 0 (.slice A n c)
  refine .inr ⟨rfl, l, A, c, rfl, HL.out, hc, HB.out.setCell hB _, by simpa using hb, ?_⟩
  exact C_kt HR.out (Kt.set _ _ _ _) HA.out

theorem eq_nil25' : ∀ (w : World) (a : Option Addr) (n c n' c' : Nat), (binOp .eql 25 (.slice a n c) (.slice none n' c')).run Try.prog w = .ok (.bool a.isNone) w := eq_nil25

/-- What First returns: the first of some rows. -/
def FirstPost (rows : List (List Int)) (w : World) (e : Ending) (w' : World) : Prop :=
  (rows = [] ∧ e = .returned (.tuple #[.slice none 0 0, .int .i64 4]) ∧ Below w.heap.size w w') ∨
  (∃ l r v, rows = l :: r ∧ e = .returned (.tuple #[v, .int .i64 0]) ∧ Kd.R (Kd.int .i64) 3 w' w.heap.size (fun _ => True) v l ∧ Below w.heap.size w w')

set_option maxHeartbeats 400000 in
set_option maxRecDepth 100000 in
theorem first_calls (n : Nat) (hn : 2 ≤ n) (hn1 : n ≤ 10) (g c : Nat) (w : World) (hc : 1 ≤ c) (hr : Kd.C (Kd.int .i64) w (some ⟨g, 0, none⟩) 1 [0]) (hA : ∃ cs, w.heap[g]? = some (.cells cs 3 (0, 0))) :
    Calls Try.prog 32 #[.agg #[.int .i64 (n : Int), .slice (some ⟨g, 0, none⟩) 1 c, .int .i64 1, .int .i64 0]] w (FirstPost (allR n (n - 1) [] 0 1 0) w) := by
  have hmf : ∀ (fn : Fn) (first cap : Array Value) (w : World), (Instr.makeFunc fn first cap).run Try.prog w = .ok (.func fn first cap) w := fun _ _ _ _ => rfl
  have q25 := eq_nil25
  obtain ⟨cs, hcs⟩ := hA
  have hgl := blk_lt hcs
  obtain ⟨W, hW⟩ : ∃ W, W = (w.alloc (.cells #[.int .i64 (n : Int), .slice (some ⟨g, 0, none⟩) 1 c, .int .i64 1, .int .i64 0] 56)).alloc (.cells #[.slice none 0 0] 25) := ⟨_, rfl⟩
  have hB : Below w.heap.size w W := by rw [hW]; exact ((Below.refl _ _).alloc (Nat.le_refl _) _).alloc (by simp) _
  have h0 : W.heap[w.heap.size + 1]? = some (.cells #[.slice none 0 0] 25 (0, 0)) := by rw [hW]; exact blk_new1 _ _ _
  have hcs' : W.heap[g]? = some (.cells cs 3 (0, 0)) := by rw [hW]; exact blk_alloc (blk_alloc hcs _) _
  have hC : Kd.C (Kd.int .i64) W (some ⟨g, 0, none⟩) 1 [0] := by rw [hW]; exact Kd.C_alloc (Kd.C_alloc hr _) _
  have HA := all_calls 50 (w.heap.size + 1) n 1000000000 hn hn1 first1_enters (JF w (w.heap.size + 1)) (JFx w (w.heap.size + 1) n) (first1_more w (w.heap.size + 1) n _ (by omega) (by omega)) (JF_step _ _) (n - 1) [] [] 0 1 0 (some ⟨g, 0, none⟩) c W ⟨rfl, hB, h0⟩ (by simp; omega) (by simpa using hc) hC (by omega) (by omega) (by intro ad e; cases e; exact ⟨by simp; omega, cs, hcs'⟩) (blk_lt h0) (by simpa using allR_le9 n hn1 hn [] 0 1 0)
  rw [hW] at HA
  replace HA := Aside0.mk HA
  clear hC hcs' hcs hr hB h0 hW W hgl
  go_enter Try.func32, Try.ntmps32
  go_wp2_with fail
  refine HA.out.mono ?_
  clear HA
  rintro e w3 (⟨rfl, ⟨h1, h2, h3⟩, _⟩ | ⟨rfl, q, hq, l, A', c'', h1, h2, h3, h4, h5, h6⟩)
  · have a0 := blk_cell h3 0
    simp at a0
    have HB := Aside0.mk h2
    have H1 := Aside0.mk h1
    clear h1 h2 h3
    go_wp2
    go_ret2
    exact .inl ⟨by simpa using H1.out, rfl, HB.out⟩
  · have a0 := blk_cell h5 0
    simp at a0
    have HB := Aside0.mk h4
    have H1 := Aside0.mk h1
    have H2 := Aside0.mk h2
    have H6 := Aside0.mk h6
    have hA' : A'.isNone = false := by
      obtain ⟨ad, e, _⟩ := h6.2.2 (by omega)
      rw [e]; rfl
    clear h1 h2 h4 h5 h6
    go_wp2_with fail
    have HC := clone_calls A' c'' l w3 (by rw [H2.out]; exact H6.out) h3 (by have := H2.out; omega)
    rw [H2.out] at HC
    refine HC.mono ?_
    clear HC
    rintro e w4 ⟨v, rfl, hv, hb⟩
    obtain ⟨A4, c4, rfl⟩ := Kd.R_slice hv
    replace hv := Aside0.mk hv
    replace hb := Aside0.mk hb
    replace hq := Aside0.mk hq
    go_wp2
    go_ret2
    obtain ⟨r, hr⟩ := hq.out
    refine .inr ⟨l, r, _, ?_, rfl, Kd.R_lower hv.out HB.out.size, HB.out.trans (hb.out.mono HB.out.size)⟩
    rw [← hr, show q = [l] from by simpa using H1.out]; rfl

set_option maxHeartbeats 400000 in
theorem First_calls (n : Nat) (hn : 2 ≤ n) (hn1 : n ≤ 10) (w : World) : Calls Try.prog 8 #[.int .i64 (n : Int)] w (FirstPost (allR n (n - 1) [] 0 1 0) w) := by
  go_enter Try.func8, Try.ntmps8
  go_wp2_with fail
  refine (rows_isLength_yes _ _ (by omega) (by omega)).mono ?_
  rintro e w1 ⟨rfl, rfl⟩
  go_wp2_with fail
  refine (from_calls n hn hn1 _).mono ?_
  rintro e w2 ⟨g, c', rfl, hg, hcs, hc', hC, hb⟩
  have HF := Aside0.mk (first_calls n hn hn1 g c' w2 hc' hC hcs)
  have HB := Aside0.mk hb
  clear hC hcs hb
  go_wp2_with fail
  refine HF.out.mono ?_
  clear HF
  rintro e w3 (⟨h1, rfl, h2⟩ | ⟨l, r, v, h1, rfl, h2, h3⟩)
  · have H1 := Aside0.mk h1
    have H2 := Aside0.mk h2
    clear h1 h2
    go_wp2
    go_ret2
    exact .inl ⟨H1.out, rfl, HB.out.trans (H2.out.mono HB.out.size)⟩
  · have H1 := Aside0.mk h1
    obtain ⟨A4, c4, rfl⟩ := Kd.R_slice h2
    have H2 := Aside0.mk h2
    have H3 := Aside0.mk h3
    clear h1 h2 h3
    go_wp2
    go_ret2
    exact .inr ⟨l, r, _, H1.out, rfl, Kd.R_lower H2.out HB.out.size, HB.out.trans (H3.out.mono HB.out.size)⟩


/-! ### List -/
theorem info25 : (Try.prog.info? 25).map (fun i => (i.zero, i.size, i.bytes)) = some (some (.slice none 0 0), 1, 24) := by kernel_rfl
abbrev KdR : Kd (List Int) := Kd.slice 3 (Kd.int .i64)
def JL (w0 : World) (B : Nat) (pre : List (List Int)) (W : World) : Prop :=
  Below w0.heap.size w0 W ∧ ∃ A m c, W.heap[B]? = some (.cells #[.slice A m c] 28 (0, 0)) ∧ Kd.R KdR 25 W w0.heap.size (fun k => w0.heap.size ≤ k ∧ k ≠ B) (.slice A m c) pre
theorem JL_step (w0 : World) (B : Nat) : ∀ pre W W', JL w0 B pre W → W.grownBy W' none → JL w0 B pre W' := by
  rintro pre W W' ⟨h1, A, m, c, h2, h3⟩ hg
  exact ⟨grown_below h1 hg h1.size, A, m, c, blk_grown h2 hg (by simp), Kd.R_grown h3 hg (by simp)⟩
theorem list1_enters : Enters Try.prog 33 := enters_of Try.func33 (by kernel_rfl) rfl
theorem list1_el {W w1 : World} {l : List Int} {Au : Option Addr} {cu base : Nat} (hu : Kd.R (Kd.int .i64) 3 w1 W.drew.heap.size (fun _ => True) (.slice Au l.length cu) l) (hb : Below W.drew.heap.size W.drew w1) (hbase : base ≤ W.heap.size) :
    KdR.M w1 base (fun k => W.heap.size ≤ k) l [.slice Au l.length cu] :=
  ⟨_, rfl, Kd.R_lower (Kd.R_mono (Kd.R_bound hu) (fun k hk => by simpa using hk.2.1)) (by simpa using hbase)⟩
theorem list1_ok {w0 W : World} {B : Nat} {A : Option Addr} {m c : Nat} {pre : List (List Int)} (hB : w0.heap.size ≤ B) (h2 : W.heap[B]? = some (.cells #[.slice A m c] 28 (0, 0)))
    (h3 : Kd.R KdR 25 W w0.heap.size (fun k => w0.heap.size ≤ k ∧ k ≠ B) (.slice A m c) pre) : ∀ k, W.heap.size ≤ k → (w0.heap.size ≤ k ∧ k ≠ B) ∧ some k ≠ (Value.slice A m c).ownBlock := by
  intro k hk
  have hl := blk_lt h2
  refine ⟨⟨by omega, by omega⟩, fun e => ?_⟩
  obtain ⟨inner, ho⟩ := Kd.R_own h3
  have := own_lt ho k e.symm
  omega
theorem list1_box {w0 W w1 w2 : World} {B : Nat} {A : Option Addr} {m c : Nat} {pre : List (List Int)} (h2 : W.heap[B]? = some (.cells #[.slice A m c] 28 (0, 0)))
    (h3 : Kd.R KdR 25 W w0.heap.size (fun k => w0.heap.size ≤ k ∧ k ≠ B) (.slice A m c) pre) (hb : Below W.drew.heap.size W.drew w1) (hg : w1.grownBy w2 (Value.slice A m c).ownBlock) : w2.heap[B]? = some (.cells #[.slice A m c] 28 (0, 0)) := by
  refine blk_grown (blk_below (w := W.drew) h2 hb (blk_lt h2)) hg (fun e => ?_)
  exact (h3.1 B e.symm).2 rfl
theorem list1_J {w0 w2 : World} {B m c c1 : Nat} {A A1 : Option Addr} {pre : List (List Int)} {l : List Int} (hB : w0.heap.size ≤ B) (hbox : w2.heap[B]? = some (.cells #[.slice A m c] 28 (0, 0))) (hB3 : Below w0.heap.size w0 w2)
    (hR3 : Kd.R KdR 25 w2 w0.heap.size (fun k => w0.heap.size ≤ k ∧ k ≠ B) (.slice A1 (pre ++ [l]).length c1) (pre ++ [l])) : JL w0 B (pre ++ [l]) (w2.setCell ⟨B, 0, none⟩ (.slice A1 (pre.length + 1) c1)) := by
  have he : (pre ++ [l]).length = pre.length + 1 := by simp
  rw [he] at hR3
  exact ⟨hB3.setCell hB _, A1, pre.length + 1, c1, by simpa using blk_set hbox 0 (.slice A1 (pre.length + 1) c1), Kd.R_far hR3 (p := ⟨B, 0, none⟩) (fun k hk => hk.2) _⟩
theorem list1_K {w0 W w1 w2 : World} {B m c : Nat} {A : Option Addr} {pre : List (List Int)} (h3 : Kd.R KdR 25 W w0.heap.size (fun k => w0.heap.size ≤ k ∧ k ≠ B) (.slice A m c) pre)
    (hb : Below W.drew.heap.size W.drew w1) (hg : w1.grownBy w2 (Value.slice A m c).ownBlock) (v : Value) : Kt B W (w2.setCell ⟨B, 0, none⟩ v) := by
  refine Kt.trans ⟨?_, fun k cs e z hk he hkB => ?_⟩ (Kt.set _ _ _ _)
  · have := hb.size; have := hg.size; simp at *; omega
  · have h1 : w1.heap[k]? = some (.cells cs e z) := blk_below (w := W.drew) hk hb (blk_lt hk)
    refine (hg.block k (blk_lt h1) (fun e' => ?_)).trans h1
    obtain ⟨inner, ho⟩ := Kd.R_own h3
    obtain ⟨cells, hc⟩ := own_typed ho k e'.symm
    rw [hk] at hc
    injection hc with hc
    injection hc with _ hc
    exact he hc
theorem list1_fresh {w0 W w1 : World} {B : Nat} {v : Value} (hB : w0.heap.size ≤ B) (h2 : W.heap[B]? = some (.cells #[v] 28 (0, 0))) (hb : Below W.drew.heap.size W.drew w1) : ∀ k, w1.heap.size ≤ k → w0.heap.size ≤ k ∧ k ≠ B := by
  intro k hk
  have hl := blk_lt h2
  have := hb.size
  simp at this
  exact ⟨by omega, by omega⟩
set_option maxHeartbeats 1000000 in
set_option maxRecDepth 100000 in
theorem list1_more (w0 : World) (B n : Nat) (hn1 : n ≤ 10) (hB : w0.heap.size ≤ B) : MoreAt 33 B n 1000000000 (JL w0 B) (fun _ _ => False) := by
  intro pre l A c W hJ hN hl hc hr hA
  obtain ⟨h1, A0, m, c0, h2, h3⟩ := hJ
  subst hl
  have a0 := blk_cell h2 0
  have f0 := blk_frozen h2
  simp at a0
  have HB := Aside0.mk h1
  have H2 := Aside0.mk h2
  have H3 := Aside0.mk h3
  have HR := Aside0.mk hr
  clear h1 h2 h3 hr hA
  go_enter Try.func33, Try.ntmps33
  go_wp2_with fail
  go_region_law
    (first
      | (go_simp; go_at_call 25; refine (clone_calls A c l _ (by exact Kd.C_drew HR.out) hc (by omega)).mono ?_; rintro e w1 ⟨u, rfl, hu, hb⟩; obtain ⟨Au, cu, rfl⟩ := Kd.R_slice hu; have hS1 := (hb.cell (p := ⟨B, 0, none⟩) (blk_lt H2.out)).trans a0; have hL1 : B < w1.heap.size := Nat.lt_of_lt_of_le (blk_lt H2.out) (by have := hb.size; simpa using this))
      | (refine Kd.R_append_step KdR (w0 := w0) w0.heap.size (by rfl) (.tmp 4) (.tmp 7) 28 25 (.slice none 0 0) 24 rfl Try.underlying28 info25 rfl (by decide) (by decide) (.slice A0 m c0) pre l [.slice Au l.length cu] (fun k => w0.heap.size ≤ k ∧ k ≠ B) (fun k => W.heap.size ≤ k) rfl rfl (by exact list1_el hu hb (by have := HB.out.size; simpa using this)) (by exact list1_ok hB H2.out H3.out) (by exact list1_fresh hB H2.out hb) (by exact Kd.R_below (Kd.R_drew H3.out) hb) (by exact HB.out.drew.trans (hb.mono (by have := HB.out.size; simpa using this))) (by have := HB.out.size; have := hb.size; simp at this; omega) (by omega) ?_; intro v1 w2 hR2 hB2 hg2 hat2; obtain ⟨A1, c1, rfl⟩ := Kd.R_slice hR2; have hbox := Aside0.mk (list1_box H2.out H3.out hb hg2); have hS2 := blk_cell hbox.out 0; simp at hS2; have hF2 := blk_frozen hbox.out; have hb3 := Aside0.mk hb; have hg3 := Aside0.mk hg2; have hR3 := Aside0.mk hR2; have hB3 := Aside0.mk hB2; clear hb hg2 hR2 hB2 hat2 hu))
  all_goals
    go_wp2
    go_ret
    exact .inl ⟨rfl, list1_J hB hbox.out hB3.out hR3.out, list1_K H3.out hb3.out hg3.out _⟩


def ListPost (rows : List (List Int)) (w : World) (e : Ending) (w' : World) : Prop :=
  ∃ v, e = .returned (.tuple #[v, .int .i64 0]) ∧ Kd.R KdR 25 w' w.heap.size (fun _ => True) v rows ∧ Below w.heap.size w w'
set_option maxHeartbeats 400000 in
theorem List_calls (n : Nat) (hn : 2 ≤ n) (hn1 : n ≤ 8) (w : World) : Calls Try.prog 9 #[.int .i64 (n : Int)] w (ListPost (allR n (n - 1) [] 0 1 0) w) := by
  have hmf : ∀ (fn : Fn) (first cap : Array Value) (w : World), (Instr.makeFunc fn first cap).run Try.prog w = .ok (.func fn first cap) w := fun _ _ _ _ => rfl
  have H0 := Aside0.mk (blk_new w (.cells #[.slice none 0 0] 28))
  have h8 : ¬ (8 : Int) < (n : Int) := by omega
  go_enter Try.func9, Try.ntmps9
  go_wp2_with fail
  refine (rows_isLength_yes _ _ (by omega) (by omega)).mono ?_
  rintro e w1 ⟨rfl, rfl⟩
  go_wp2_with fail
  refine (from_calls n hn (by omega) _).mono ?_
  rintro e w2 ⟨g, c', rfl, hg, hcs, hc', hC, hb⟩
  have hB : Below w1.heap.size w1 w2 := ((Below.refl _ _).alloc (Nat.le_refl _) _).trans (hb.mono (by simp))
  have h0 := blk_below H0.out hb (by simp)
  have hlt := blk_lt h0
  have HA := Aside0.mk (all_calls 33 w1.heap.size n 1000000000 hn (by omega) list1_enters (JL w1 w1.heap.size) (fun _ _ => False) (list1_more w1 w1.heap.size n (by omega) (Nat.le_refl _)) (JL_step _ _) (n - 1) [] [] 0 1 0 (some ⟨g, 0, none⟩) c' w2 ⟨hB, none, 0, 0, h0, Kd.R_nil _ _ _ _ _⟩ (by simp; omega) (by simpa using hc') hC (by omega) (by omega) (by intro ad e; cases e; exact ⟨by simp at hg; simp; omega, hcs⟩) hlt (by simpa using allR_le9 n (by omega) hn [] 0 1 0))
  clear hC hcs hg hb hB h0 hlt
  go_wp2_with fail
  refine HA.out.mono ?_
  clear HA
  rintro e w3 (⟨rfl, ⟨h1, A, m, c, h2, h3⟩, _⟩ | ⟨_, _, _, h⟩)
  · have a0 := blk_cell h2 0
    simp at a0
    replace h3 := Aside0.mk h3
    replace h1 := Aside0.mk h1
    go_wp2
    go_ret2
    exact ⟨_, rfl, Kd.R_mono h3.out (fun _ _ => trivial), h1.out⟩
  · exact h.elim

/-! ### the errors -/
theorem rows_isLength_no (n : Int) (w : World) (h : ¬ (2 ≤ n ∧ n ≤ 10)) : Calls Try.prog 28 #[.int .i64 n] w fun e w' => e = .returned (.bool false) ∧ w' = w := by
  by_cases h2 : 2 ≤ n
  · have h3 : ¬ n ≤ 10 := fun h' => h ⟨h2, h'⟩
    go_enter Try.func28, Try.ntmps28
    go_wp2
    go_ret
    exact ⟨by simp [h3], rfl⟩
  · go_enter Try.func28, Try.ntmps28
    go_wp2
    go_ret
    exact ⟨by simp, rfl⟩
theorem Count_err (n : Int) (w : World) (h : ¬ (2 ≤ n ∧ n ≤ 10)) : Calls Try.prog 7 #[.int .i64 n] w fun e w' => e = .returned (.tuple #[.int .i64 0, .int .i64 2]) ∧ w' = w := by
  go_enter Try.func7, Try.ntmps7
  go_wp2_with fail
  refine (rows_isLength_no _ _ h).mono ?_
  rintro e w1 ⟨rfl, rfl⟩
  go_wp2
  go_ret2
  exact ⟨rfl, rfl⟩
theorem First_err (n : Int) (w : World) (h : ¬ (2 ≤ n ∧ n ≤ 10)) : Calls Try.prog 8 #[.int .i64 n] w fun e w' => e = .returned (.tuple #[.slice none 0 0, .int .i64 2]) ∧ w' = w := by
  go_enter Try.func8, Try.ntmps8
  go_wp2_with fail
  refine (rows_isLength_no _ _ h).mono ?_
  rintro e w1 ⟨rfl, rfl⟩
  go_wp2
  go_ret2
  exact ⟨rfl, rfl⟩
theorem List_err (n : Int) (w : World) (h : ¬ (2 ≤ n ∧ n ≤ 8)) : Calls Try.prog 9 #[.int .i64 n] w fun e w' => e = .returned (.tuple #[.slice none 0 0, .int .i64 2]) ∧ w' = w := by
  by_cases h' : 2 ≤ n ∧ n ≤ 10
  · have h8 : (8 : Int) < n := by omega
    go_enter Try.func9, Try.ntmps9
    go_wp2_with fail
    refine (rows_isLength_yes _ _ h'.1 h'.2).mono ?_
    rintro e w1 ⟨rfl, rfl⟩
    go_wp2
    go_ret2
    exact ⟨rfl, rfl⟩
  · go_enter Try.func9, Try.ntmps9
    go_wp2_with fail
    refine (rows_isLength_no _ _ h').mono ?_
    rintro e w1 ⟨rfl, rfl⟩
    go_wp2
    go_ret2
    exact ⟨rfl, rfl⟩

end Go.Proofs.Ytblfoijalcmfkaa.Hand
