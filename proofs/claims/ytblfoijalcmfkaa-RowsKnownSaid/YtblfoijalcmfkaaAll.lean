/- The search goes through all rows with every step, in order, as long as the caller wants more. -/
import Derived.Test.YtblfoijalcmfkaaAdd
import Derived.Shelf.Abstract
namespace Go.Proofs.Ytblfoijalcmfkaa.Hand
open Go.RowKit Go.Shelf Go.Proofs.YtblfoijalcmfkaaW.PrintWords Go.Proofs.YtblfoijalcmfkaaW.PrintLast Go.Proofs.YtblfoijalcmfkaaW.PrintMore Go.Proofs.YtblfoijalcmfkaaHnd
set_option linter.unusedVariables false
set_option linter.unusedSimpArgs false

/-- May tone x come behind y? -/
def addB (n t s x y : Int) : Bool := !(bits .and .i64 (t / 2 ^ x.toNat) 1 == 1) && !(bits .and .i64 (s / 2 ^ ((x - y) % n).toNat) 1 == 1)
def putT (t x : Int) : Int := bits .or .i64 t (wrap64 (2 ^ x.toNat))

/-- All rows that begin so, in order. -/
def allR (n : Int) : Nat → List Int → Int → Int → Int → List (List Int)
  | 0, l, y, t, s => [l ++ [y]]
  | k + 1, l, y, t, s => (List.range n.toNat).flatMap fun (x : Nat) => if addB n t s x y then allR n k (l ++ [y]) x (putT t x) (putT s ((x - y) % n)) else []

theorem add_no (n t s x y : Int) (A : Option Addr) (c : Nat) (l : List Int) (w : World) (hx : 0 ≤ x) (hx1 : x ≤ 62) (hn : 0 < n) (hn1 : n ≤ 16)
    (hr : Kd.C (Kd.int .i64) w A (l ++ [y]).length (l ++ [y])) (hl : l.length ≤ 100) (hy0 : 0 ≤ y) (hy1 : y ≤ 64) (h : addB n t s x y = false) :
    Calls Try.prog 49 #[.agg #[.int .i64 n, .slice A (l.length + 1) c, .int .i64 t, .int .i64 s], .int .i64 x] w fun e w' => e = .returned (.tuple #[.agg #[.int .i64 n, .slice A (l.length + 1) c, .int .i64 t, .int .i64 s], .bool false]) ∧ Below w.heap.size w w' := by
  unfold addB at h
  by_cases h1 : (bits .and .i64 (t / 2 ^ x.toNat) 1 == 1) = true
  · exact add_tone n t s x A c _ w hx (by omega) h1
  · have h1' : (bits .and .i64 (t / 2 ^ x.toNat) 1 == 1) = false := by simpa using h1
    rw [h1'] at h
    exact add_step n t s x y A c l w hx (by omega) hn hn1 hr hl hy0 hy1 h1' (by simpa using h)

theorem add_yes (n t s x y : Int) (A : Option Addr) (c : Nat) (l : List Int) (w : World) (hx : 0 ≤ x) (hx1 : x ≤ 62) (hn : 0 < n) (hn1 : n ≤ 16)
    (hr : Kd.C (Kd.int .i64) w A (l ++ [y]).length (l ++ [y])) (hl : l.length ≤ 100) (hy0 : 0 ≤ y) (hy1 : y ≤ 64) (hcap : l.length + 1 ≤ c) (h : addB n t s x y = true) :
    Calls Try.prog 49 #[.agg #[.int .i64 n, .slice A (l.length + 1) c, .int .i64 t, .int .i64 s], .int .i64 x] w fun e w' => ∃ g c', e = .returned (.tuple #[.agg #[.int .i64 n, .slice (some ⟨g, 0, none⟩) (l.length + 2) c', .int .i64 (putT t x), .int .i64 (putT s ((x - y) % n))], .bool true]) ∧ w.heap.size ≤ g ∧ (∃ cs, w'.heap[g]? = some (.cells cs 3 (0, 0))) ∧ l.length + 2 ≤ c' ∧ Kd.C (Kd.int .i64) w' (some ⟨g, 0, none⟩) (l ++ [y] ++ [x]).length (l ++ [y] ++ [x]) ∧ Below w.heap.size w w' := by
  unfold addB at h
  simp only [Bool.and_eq_true, Bool.not_eq_true'] at h
  exact add_more n t s x y A c l w hx hx1 hn hn1 hr hl hy0 hy1 hcap h.1 h.2

/-- The block that the caller's function writes. -/
def MoreAt (g B n N : Nat) (J Jx : List (List Int) → World → Prop) : Prop :=
  ∀ pre (l : List Int) (A : Option Addr) (c : Nat) (W : World), J pre W → pre.length < N → l.length = n → l.length ≤ c → Kd.C (Kd.int .i64) W A n l → (∀ ad, A = some ad → ad.block ≠ B ∧ ∃ cs, W.heap[ad.block]? = some (.cells cs 3 (0, 0))) →
    Calls Try.prog g #[.slice A n c, .pointer (some ⟨B, 0, none⟩)] W fun e W' => (e = .returned (.bool true) ∧ J (pre ++ [l]) W' ∧ Kt B W W') ∨ (e = .returned (.bool false) ∧ Jx (pre ++ [l]) W')

set_option maxHeartbeats 400000 in
set_option maxRecDepth 100000 in
theorem all_end (g B n N : Nat) (hE : Enters Try.prog g) (J Jx : List (List Int) → World → Prop) (hM : MoreAt g B n N J Jx) (pre : List (List Int)) (l : List Int) (y t s : Int) (A : Option Addr) (c : Nat) (w : World)
    (hJ : J pre w) (hN : (pre ++ [l ++ [y]]).length ≤ N) (hs : ∀ pre W W', J pre W → W.grownBy W' none → J pre W') (hl : l.length + 1 = n) (hc : l.length + 1 ≤ c) (hr : Kd.C (Kd.int .i64) w A (l ++ [y]).length (l ++ [y])) (hA : ∀ ad, A = some ad → ad.block ≠ B ∧ ∃ cs, w.heap[ad.block]? = some (.cells cs 3 (0, 0))) :
    Calls Try.prog 30 #[.agg #[.int .i64 (n : Int), .slice A (l.length + 1) c, .int .i64 t, .int .i64 s], .func (.func g) #[] #[.pointer (some ⟨B, 0, none⟩)]] w fun e W' =>
      (e = .returned (.bool true) ∧ J (pre ++ [l ++ [y]]) W' ∧ Kt B w W') ∨ (e = .returned (.bool false) ∧ Jx (pre ++ [l ++ [y]]) W') := by
  subst hl
  have hE' : ∀ (args : Array Value) (w : World), (callFunc g args).run Try.prog w = .ok (.enter g args) w := hE
  go_enter Try.func30, Try.ntmps30
  go_wp2_with fail
  refine (hM pre (l ++ [y]) A c _ (hs _ _ _ hJ (World.grownBy_alloc _ _ _)) (by simp at hN; omega) (by simp) (by simpa using hc) (by simpa using Kd.C_alloc hr _) (fun ad e => ⟨(hA ad e).1, (hA ad e).2.imp fun cs h => blk_alloc h _⟩)).mono ?_
  rintro e W' (⟨rfl, hJ', hg⟩ | ⟨rfl, hx⟩)
  · go_wp2
    go_ret
    exact .inl ⟨rfl, hJ', (Kt.of_none (World.grownBy_alloc w _ none)).trans hg⟩
  · go_wp2
    go_ret
    exact .inr ⟨rfl, hx⟩


/-- What one tone more leads to. -/
def kidR (n : Int) (k : Nat) (l : List Int) (y t s : Int) (x : Nat) : List (List Int) := if addB n t s x y then allR n k (l ++ [y]) x (putT t x) (putT s ((x - y) % n)) else []
theorem allR_succ (n : Int) (k : Nat) (l : List Int) (y t s : Int) : allR n (k + 1) l y t s = (List.range n.toNat).flatMap (kidR n k l y t s) := rfl
theorem flat_succ {α : Type} (f : Nat → List α) (i : Nat) : (List.range (i + 1)).flatMap f = (List.range i).flatMap f ++ f i := by
  rw [List.range_succ, List.flatMap_append]; simp
theorem flat_prefix {α : Type} (f : Nat → List α) {i n : Nat} (h : i < n) {q : List α} (hq : q <+: f i) : (List.range i).flatMap f ++ q <+: (List.range n).flatMap f := by
  obtain ⟨r, hr⟩ := hq
  obtain ⟨m, rfl⟩ : ∃ m, n = i + 1 + m := ⟨n - i - 1, by omega⟩
  refine ⟨r ++ ((List.range m).map (i + 1 + ·)).flatMap f, ?_⟩
  rw [List.range_add, List.flatMap_append, flat_succ, ← hr]
  simp [List.append_assoc]

def AllPost (J Jx : List (List Int) → World → Prop) (B : Nat) (pre rows : List (List Int)) (w : World) (e : Ending) (W' : World) : Prop :=
  (e = .returned (.bool true) ∧ J (pre ++ rows) W' ∧ Kt B w W') ∨ (e = .returned (.bool false) ∧ ∃ q, q <+: rows ∧ Jx (pre ++ q) W')

set_option maxHeartbeats 1000000 in
set_option maxRecDepth 100000 in
theorem all_more (g B n N : Nat) (hn : 2 ≤ n) (hn1 : n ≤ 10) (hE : Enters Try.prog g) (J Jx : List (List Int) → World → Prop) (hM : MoreAt g B n N J Jx) (hs : ∀ pre W W', J pre W → W.grownBy W' none → J pre W') (k : Nat)
    (ih : ∀ (pre : List (List Int)) (l : List Int) (y t s : Int) (A : Option Addr) (c : Nat) (w : World), J pre w → l.length + 1 + k = n → l.length + 1 ≤ c → Kd.C (Kd.int .i64) w A (l ++ [y]).length (l ++ [y]) → 0 ≤ y → y < n → (∀ ad, A = some ad → ad.block ≠ B ∧ ∃ cs, w.heap[ad.block]? = some (.cells cs 3 (0, 0))) → B < w.heap.size → (pre ++ allR n k l y t s).length ≤ N →
      Calls Try.prog 30 #[.agg #[.int .i64 (n : Int), .slice A (l.length + 1) c, .int .i64 t, .int .i64 s], .func (.func g) #[] #[.pointer (some ⟨B, 0, none⟩)]] w (AllPost J Jx B pre (allR n k l y t s) w))
    (pre : List (List Int)) (l : List Int) (y t s : Int) (A : Option Addr) (c : Nat) (w : World)
    (hJ : J pre w) (hl : l.length + 1 + (k + 1) = n) (hc : l.length + 1 ≤ c) (hr : Kd.C (Kd.int .i64) w A (l ++ [y]).length (l ++ [y])) (hy : 0 ≤ y) (hyn : y < n) (hA : ∀ ad, A = some ad → ad.block ≠ B ∧ ∃ cs, w.heap[ad.block]? = some (.cells cs 3 (0, 0))) (hB : B < w.heap.size) (hN : (pre ++ allR n (k + 1) l y t s).length ≤ N) :
    Calls Try.prog 30 #[.agg #[.int .i64 (n : Int), .slice A (l.length + 1) c, .int .i64 t, .int .i64 s], .func (.func g) #[] #[.pointer (some ⟨B, 0, none⟩)]] w (AllPost J Jx B pre (allR n (k + 1) l y t s) w) := by
  have hne : ((l.length : Int) + 1 == (n : Int)) = false := beq_eq_false_iff_ne.mpr (by omega)
  have HJ := Aside0.mk (hs _ _ _ hJ (World.grownBy_alloc w (.cells #[.int .i64 (n : Int), .slice A (l.length + 1) c, .int .i64 t, .int .i64 s] 56) none))
  have H0 := Aside0.mk (blk_new w (.cells #[.int .i64 (n : Int), .slice A (l.length + 1) c, .int .i64 t, .int .i64 s] 56))
  have hlA := Aside0.mk hA
  have HR := Aside0.mk hr
  have HS := Aside0.mk hs
  have HI := Aside0.mk ih
  have hl' := Aside0.mk hl
  have HN := Aside0.mk hN
  clear hN
  clear hJ hA hr hs ih hl hM
  go_enter Try.func30, Try.ntmps30
  go_wp2
  go_loopw [20] (fun v wr => ∃ x : Nat, x ≤ n ∧ v = .int .i64 x ∧ Aside0 (J (pre ++ (List.range x).flatMap (kidR n k l y t s)) wr) ∧ Aside0 (Kt B w wr) ∧ Aside0 (w.heap.size < wr.heap.size) ∧ Aside0 (wr.heap[w.heap.size]? = some (.cells #[.int .i64 (n : Int), .slice A (l.length + 1) c, .int .i64 t, .int .i64 s] 56 (0, 0)))) (fun v _ => n - (intOf v).toNat)
  case atStart => exact ⟨0, Nat.zero_le _, rfl, ⟨by simpa using HJ.out⟩, ⟨Kt.of_none (World.grownBy_alloc w _ none)⟩, ⟨by simp⟩, H0⟩
  case round =>
    obtain ⟨x, hx, rfl, HJx, HG, HL, HC⟩ := hrel
    have c0 := blk_cell HC.out 0
    have c1 := blk_cell HC.out 1
    have c2 := blk_cell HC.out 2
    have c3 := blk_cell HC.out 3
    simp at c0 c1 c2 c3
    clear HJ H0
    have HRx : Aside0 (Kd.C (Kd.int .i64) wr A (l ++ [y]).length (l ++ [y])) := ⟨C_kt HR.out HG.out hlA.out⟩
    by_cases hxn : x < n
    · cases hadd : addB n t s x y with
      | false =>
        have Hadd := Aside0.mk hadd
        clear hadd
        go_wp2_with fail
        refine (add_no n t s x y A c l _ (by omega) (by omega) (by omega) (by omega) HRx.out (by have := hl'.out; omega) hy (by omega) Hadd.out).mono ?_
        rintro e w1 ⟨rfl, hb1⟩
        go_wp2
        go_roundw
        case measure => simp [intOf]; omega
        case rel =>
          have hg1 := (grown_of_below hb1 none).trans (World.grownBy_alloc w1 (.cells #[.int .i64 (n : Int), .slice A (l.length + 1) c, .int .i64 t, .int .i64 s] 56) none)
          refine ⟨x + 1, by omega, by go_num, ⟨?_⟩, ⟨HG.out.trans (Kt.of_none hg1)⟩, ⟨by have := HL.out; have := hb1.size; simp; omega⟩, ⟨blk_grown HC.out hg1 (by simp)⟩⟩
          rw [flat_succ, kidR, Hadd.out]
          simp only [Bool.false_eq_true, if_false, List.append_nil]
          exact HS.out _ _ _ HJx.out hg1
      | true =>
        have Hadd := Aside0.mk hadd
        clear hadd
        go_wp2_with fail
        refine (add_yes n t s x y A c l _ (by omega) (by omega) (by omega) (by omega) HRx.out (by have := hl'.out; omega) hy (by omega) hc Hadd.out).mono ?_
        rintro e w1 ⟨q, c', rfl, hq, ⟨csq, hcsq⟩, hc', hC1, hb1⟩
        have hg1 := Aside0.mk ((grown_of_below hb1 none).trans (World.grownBy_alloc w1 (.cells #[.int .i64 (n : Int), .slice (some ⟨q, 0, none⟩) (l.length + 2) c', .int .i64 (putT t x), .int .i64 (putT s ((x - y) % n))] 56) none))
        have hC2 := Aside0.mk (Kd.C_alloc hC1 (.cells #[.int .i64 (n : Int), .slice (some ⟨q, 0, none⟩) (l.length + 2) c', .int .i64 (putT t x), .int .i64 (putT s ((x - y) % n))] 56))
        have hb1' := Aside0.mk hb1
        have hcq := Aside0.mk (blk_alloc hcsq (.cells #[.int .i64 (n : Int), .slice (some ⟨q, 0, none⟩) (l.length + 2) c', .int .i64 (putT t x), .int .i64 (putT s ((x - y) % n))] 56))
        clear hcsq
        clear hC1 hb1
        have HI2 := HI.out (pre ++ (List.range x).flatMap (kidR n k l y t s)) (l ++ [y]) x (putT t x) (putT s ((x - y) % n)) (some ⟨q, 0, none⟩) c' _ (HS.out _ _ _ HJx.out hg1.out) (by have := hl'.out; simp; omega) (by simpa using hc') hC2.out (by omega) (by omega) (by intro ad e; cases e; exact ⟨by have := HG.out.size; simp; omega, csq, hcq.out⟩) (by have := HG.out.size; have := hb1'.out.size; simp; omega) (by have h1 := HN.out; have h2 := (flat_prefix (kidR n k l y t s) hxn (List.prefix_refl _)).length_le; rw [allR_succ, Int.toNat_natCast] at h1; rw [kidR, Hadd.out, if_pos rfl] at h2; simp only [List.length_append] at h1 h2 ⊢; omega)
        rw [show (l ++ [y]).length + 1 = l.length + 2 from by simp] at HI2
        go_wp2_with fail
        refine HI2.mono ?_
        clear HI2
        rintro e w2 (⟨rfl, hJ2, hg2⟩ | ⟨rfl, p, hp, hx2⟩)
        · go_wp2
          go_roundw
          case measure => simp [intOf]; omega
          case rel =>
            have hg3 := (Kt.of_none (B := B) hg1.out).trans hg2
            refine ⟨x + 1, by omega, by go_num, ⟨?_⟩, ⟨HG.out.trans hg3⟩, ⟨by have := HL.out; have := hg3.size; omega⟩, ⟨hg3.blk _ _ _ _ HC.out (by decide) (by omega)⟩⟩
            rw [flat_succ, kidR, Hadd.out]
            simpa using hJ2
        · go_wp2
          go_ret
          refine .inr ⟨rfl, _, ?_, by rw [← List.append_assoc]; exact hx2⟩
          rw [allR_succ, Int.toNat_natCast]
          exact flat_prefix _ hxn (by rw [kidR, Hadd.out]; exact hp)
    · obtain rfl : x = n := by omega
      go_wp2
      go_ret
      exact .inl ⟨rfl, by rw [allR_succ, Int.toNat_natCast]; exact HJx.out, HG.out⟩


theorem all_calls (g B n N : Nat) (hn : 2 ≤ n) (hn1 : n ≤ 10) (hE : Enters Try.prog g) (J Jx : List (List Int) → World → Prop) (hM : MoreAt g B n N J Jx) (hs : ∀ pre W W', J pre W → W.grownBy W' none → J pre W') (k : Nat) :
    ∀ (pre : List (List Int)) (l : List Int) (y t s : Int) (A : Option Addr) (c : Nat) (w : World), J pre w → l.length + 1 + k = n → l.length + 1 ≤ c → Kd.C (Kd.int .i64) w A (l ++ [y]).length (l ++ [y]) → 0 ≤ y → y < n → (∀ ad, A = some ad → ad.block ≠ B ∧ ∃ cs, w.heap[ad.block]? = some (.cells cs 3 (0, 0))) → B < w.heap.size → (pre ++ allR n k l y t s).length ≤ N →
      Calls Try.prog 30 #[.agg #[.int .i64 (n : Int), .slice A (l.length + 1) c, .int .i64 t, .int .i64 s], .func (.func g) #[] #[.pointer (some ⟨B, 0, none⟩)]] w (AllPost J Jx B pre (allR n k l y t s) w) := by
  induction k with
  | zero =>
    intro pre l y t s A c w hJ hl hc hr hy hyn hA hB hN
    refine (all_end g B n N hE J Jx hM pre l y t s A c w hJ hN hs (by omega) hc hr hA).mono ?_
    rintro e W' (h | ⟨h1, h2⟩)
    · exact .inl h
    · exact .inr ⟨h1, [l ++ [y]], List.prefix_refl _, h2⟩
  | succ k ih => exact fun pre l y t s A c w hJ hl hc hr hy hyn hA hB hN => all_more g B n N hn hn1 hE J Jx hM hs k ih pre l y t s A c w hJ hl hc hr hy hyn hA hB hN


theorem flat_le {α : Type} (f : Nat → List α) (m : Nat) (h : ∀ i, (f i).length ≤ m) (n : Nat) : ((List.range n).flatMap f).length ≤ n * m := by
  induction n with
  | zero => simp
  | succ n ih =>
    rw [flat_succ, List.length_append, Nat.succ_mul]
    have := h n
    omega
theorem allR_le (n k : Nat) : ∀ l y t s, (allR n k l y t s).length ≤ n ^ k := by
  induction k with
  | zero => intro l y t s; simp [allR]
  | succ k ih =>
    intro l y t s
    rw [allR_succ, Int.toNat_natCast, Nat.pow_succ, Nat.mul_comm]
    refine flat_le _ _ (fun i => ?_) n
    unfold kidR
    split
    · exact ih _ _ _ _
    · simp
theorem allR_le9 (n : Nat) (hn : n ≤ 10) (h2 : 2 ≤ n) (l : List Int) (y t s : Int) : (allR n (n - 1) l y t s).length ≤ 1000000000 := by
  refine Nat.le_trans (allR_le n (n - 1) l y t s) ?_
  have h1 : n ^ (n - 1) ≤ 10 ^ (n - 1) := Nat.pow_le_pow_left hn _
  have h3 : 10 ^ (n - 1) ≤ 10 ^ 9 := Nat.pow_le_pow_right (by decide) (by omega)
  omega

end Go.Proofs.Ytblfoijalcmfkaa.Hand
