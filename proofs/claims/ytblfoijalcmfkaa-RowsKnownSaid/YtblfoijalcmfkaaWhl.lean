/- The reference's search: all rows with every step that begin so. -/
import Derived.Test.YtblfoijalcmfkaaCnt
import Derived.Test.YtblfoijalcmfkaaPur
namespace Go.Proofs.Ytblfoijalcmfkaa.Hand
open Go.RowKit Go.Shelf Go.Proofs.YtblfoijalcmfkaaW.PrintWords Go.Proofs.YtblfoijalcmfkaaW.PrintLast Go.Proofs.YtblfoijalcmfkaaW.PrintMore Go.Proofs.YtblfoijalcmfkaaHnd Go.Proofs.Ytblfoijalcmfkaa.PRowsCounts
set_option linter.unusedVariables false
set_option linter.unusedSimpArgs false

theorem every_calls (n : Int) (hn : 0 < n) (hn1 : n ≤ 60) (l : List Int) (hl : InR n l) (hlen : l.length ≤ 1000) (A : Option Addr) (c : Nat) (w : World) (hr : Kd.C (Kd.int .i64) w A l.length l) (hc : l.length ≤ c) :
    Calls Try.prog 17 #[.slice A l.length c, .int .i64 n] w fun e w' => e = .returned (.bool (evB n l)) ∧ Below w.heap.size w w' :=
  sackbutref05_Every.calls 1002 A c l n (evB n l) w hr hc (refevery n hn hn1 l hl hlen)
theorem part_calls (n : Int) (hn : 0 < n) (hn1 : n ≤ 60) (l : List Int) (hl : InR n l) (hlen : l.length ≤ 1000) (A : Option Addr) (c : Nat) (w : World) (hr : Kd.C (Kd.int .i64) w A l.length l) (hc : l.length ≤ c) :
    Calls Try.prog 36 #[.slice A l.length c, .int .i64 n] w fun e w' => e = .returned (.bool (paB l)) ∧ Below w.heap.size w w' :=
  (sackbutref05_Part.calls 1002 A c l n (paB l) w hr hc (refpart n hn hn1 l hl hlen)).mono fun _ _ h => ⟨h.1, h.2.below⟩

abbrev Rws := List (List Int)
/-- One round after the other, r rounds to come. -/
def loopW (n most : Nat) (rc : List Int → Rws → Int × Rws) (l : List Int) : Nat → Int → Rws → Int × Rws
  | 0, c, F => (c, F)
  | r + 1, c, F => if paB (l ++ [((n - (r + 1) : Nat) : Int)]) then
      (if most = 1 ∧ (rc (l ++ [((n - (r + 1) : Nat) : Int)]) F).2.length = 1 then (wrap64 (c + (rc (l ++ [((n - (r + 1) : Nat) : Int)]) F).1), (rc (l ++ [((n - (r + 1) : Nat) : Int)]) F).2)
        else loopW n most rc l r (wrap64 (c + (rc (l ++ [((n - (r + 1) : Nat) : Int)]) F).1)) (rc (l ++ [((n - (r + 1) : Nat) : Int)]) F).2)
    else loopW n most rc l r c F
def wholeP (n most : Nat) : Nat → List Int → Rws → Int × Rws
  | 0, l, F => if evB n l then (1, if F.length < most then F ++ [l] else F) else (0, F)
  | k + 1, l, F => if evB n l then loopW n most (wholeP n most k) l n 0 F else (0, F)

def WholePost (w0 : World) (P : Nat) (r : Int × Rws) (w : World) (e : Ending) (w' : World) : Prop := e = .returned (.int .i64 r.1) ∧ JL w0 P r.2 w' ∧ Kt P w w'
/-- A row whose block is not P. -/
def FarT (P : Nat) (A : Option Addr) (w : World) : Prop := ∀ ad, A = some ad → ad.block ≠ P ∧ ∃ cs, w.heap[ad.block]? = some (.cells cs 3 (0, 0))
theorem JL_below {w0 : World} {P : Nat} {F : Rws} {w w' : World} (h : JL w0 P F w) (hb : Below w.heap.size w w') : JL w0 P F w' := JL_step w0 P F w w' h (grown_of_below hb none)

set_option maxHeartbeats 1000000 in
set_option maxRecDepth 100000 in
theorem whole_no (n most P : Nat) (hn : 2 ≤ n) (hn1 : n ≤ 10) (w0 : World) (l : List Int) (F : Rws) (A : Option Addr) (c : Nat) (w : World) (hJ : JL w0 P F w) (hl : InR n l) (hlen : l.length ≤ 20) (hc : l.length ≤ c) (hr : Kd.C (Kd.int .i64) w A l.length l) (hev : evB n l = false) :
    Calls Try.prog 35 #[.slice A l.length c, .int .i64 n, .int .i64 most, .pointer (some ⟨P, 0, none⟩)] w (WholePost w0 P (0, F) w) := by
  have HE := Aside0.mk (every_calls n (by omega) (by omega) l hl (by omega) A c w hr hc)
  have HJ := Aside0.mk hJ
  have Hv := Aside0.mk hev
  clear hJ hr hev hl
  go_enter Try.func35, Try.ntmps35
  go_wp2_with fail
  refine HE.out.mono ?_
  rw [Hv.out]
  rintro e w1 ⟨rfl, hb⟩
  replace hb := Aside0.mk hb
  clear HE
  go_wp2
  go_ret
  exact ⟨rfl, JL_below HJ.out hb.out, Kt.of_none (grown_of_below hb.out none)⟩

set_option maxHeartbeats 1000000 in
set_option maxRecDepth 100000 in
theorem whole_end_full (n most P : Nat) (hn : 2 ≤ n) (hn1 : n ≤ 10) (w0 : World) (l : List Int) (F : Rws) (A : Option Addr) (c : Nat) (w : World) (hJ : JL w0 P F w) (hl : InR n l) (hlen : l.length = n) (hc : l.length ≤ c) (hr : Kd.C (Kd.int .i64) w A l.length l) (hev : evB n l = true) (hm : most ≤ F.length) :
    Calls Try.prog 35 #[.slice A l.length c, .int .i64 n, .int .i64 most, .pointer (some ⟨P, 0, none⟩)] w (WholePost w0 P (1, F) w) := by
  have HE := Aside0.mk (every_calls n (by omega) (by omega) l hl (by omega) A c w hr hc)
  have HJ := Aside0.mk hJ
  have Hv := Aside0.mk hev
  have heq : ((l.length : Int) == (n : Int)) = true := beq_iff_eq.mpr (by omega)
  have heq2 : (l.length == n) = true := beq_iff_eq.mpr (by omega)
  have hlt : ¬ (F.length : Int) < (most : Int) := by omega
  have hlt2 : decide (F.length < most) = false := by simp; omega
  have Hl := Aside0.mk hlen
  clear hJ hr hev hl hlen
  go_enter Try.func35, Try.ntmps35
  go_wp2_with fail
  refine HE.out.mono ?_
  rw [Hv.out]
  rintro e w1 ⟨rfl, hb⟩
  obtain ⟨h1, A0, m, c0, h2, h3⟩ := JL_below HJ.out hb
  obtain ⟨A1, c1, hR⟩ := Kd.R_slice h3
  cases hR
  have a0 := blk_cell h2 0
  simp at a0
  replace hb := Aside0.mk hb
  clear HE h1 h2 h3
  go_wp2
  go_ret
  exact ⟨rfl, JL_below HJ.out hb.out, Kt.of_none (grown_of_below hb.out none)⟩


theorem rows_of_C {W : World} {A : Option Addr} {l : List Int} (h : Kd.C (Kd.int .i64) W A l.length l) : ReadsRow (fun x cs => cs = [Value.int .i64 x]) 1 W A l.length l := h
theorem empty_R (W : World) : Kd.R (Kd.int .i64) 3 (W.drew.alloc (.cells #[] 3)) W.drew.heap.size (fun _ => True) (.slice (some ⟨W.heap.size, 0, none⟩) 0 0) [] :=
  Kd.R_of_own ⟨by simp [encs], .inr ⟨W.heap.size, 0, #[], rfl, Nat.le_refl _, blk_new W.drew _, Nat.le_refl _, by decide, rfl, by simp [encs]⟩⟩ (fun k hk => trivial)
theorem append_box {W w1 : World} {P : Nat} {v : Value} (h2 : W.heap[P]? = some (.cells #[v] 28 (0, 0))) (hb : Below W.drew.heap.size W.drew w1) : w1.heap[P]? = some (.cells #[v] 28 (0, 0)) := blk_below (w := W.drew) h2 hb (blk_lt h2)

set_option maxHeartbeats 2000000 in
set_option maxRecDepth 100000 in
theorem whole_end_put (n most P : Nat) (hn : 2 ≤ n) (hn1 : n ≤ 10) (w0 : World) (hP : w0.heap.size ≤ P) (l : List Int) (F : Rws) (A : Option Addr) (c : Nat) (w : World) (hJ : JL w0 P F w) (hl : InR n l) (hlen : l.length = n) (hc : l.length ≤ c) (hr : Kd.C (Kd.int .i64) w A l.length l) (hev : evB n l = true) (hm : F.length < most) (hF : most < 1000000) :
    Calls Try.prog 35 #[.slice A l.length c, .int .i64 n, .int .i64 most, .pointer (some ⟨P, 0, none⟩)] w (WholePost w0 P (1, F ++ [l]) w) := by
  have HE := Aside0.mk (every_calls n (by omega) (by omega) l hl (by omega) A c w hr hc)
  have HJ := Aside0.mk hJ
  have Hv := Aside0.mk hev
  have HR := Aside0.mk hr
  have heq : ((l.length : Int) == (n : Int)) = true := beq_iff_eq.mpr (by omega)
  have heq2 : (l.length == n) = true := beq_iff_eq.mpr (by omega)
  have hlt : (F.length : Int) < (most : Int) := by omega
  have hlt2 : decide (F.length < most) = true := by simp; omega
  have Hl := Aside0.mk hlen
  have hl10 : l.length ≤ 10 := by omega
  clear hJ hr hev hl hlen
  go_enter Try.func35, Try.ntmps35
  go_wp2_with fail
  refine HE.out.mono ?_
  rw [Hv.out]
  rintro e w1 ⟨rfl, hb⟩
  obtain ⟨h1, A0, m, c0, h2, h3⟩ := JL_below HJ.out hb
  obtain ⟨A1, c1, hR⟩ := Kd.R_slice h3
  cases hR
  have a0 := blk_cell h2 0
  have f0 := blk_frozen h2
  simp at a0
  have HB1 := Aside0.mk h1
  have H2 := Aside0.mk h2
  have H3 := Aside0.mk h3
  have HRw := Aside0.mk (Kd.C_below HR.out hb)
  have hPl := blk_lt h2
  replace hb := Aside0.mk hb
  clear HE h1 h2 h3
  go_wp2_with fail
  go_region_law
    (first
      | (refine Kd.R_append_rows_step (Kd.int .i64) (Rr := fun x cs => cs = [Value.int .i64 x]) (w0 := w1.drew) w1.drew.heap.size (by rfl) (.tmp 30) (.tmp 31) 25 3 (.int .i64 0) 8 rfl Try.underlying25 info3 rfl (by decide) (by decide) (.slice (some ⟨w1.heap.size, 0, none⟩) 0 0) [] l A l.length c (fun _ => True) (fun _ => False) rfl rfl (by exact empty_R w1) (by exact rows_of_C (Kd.C_alloc (Kd.C_drew HRw.out) _)) (by exact fun _ _ h => h) (by exact fun _ h => h.elim) (by exact fun _ _ => trivial) (by exact (Below.refl _ _).alloc (Nat.le_refl _) _) (by simp) (by simp; omega) ?_; intro v2 x1 hu hb2 hg2 hat2; obtain ⟨Au, cu, rfl⟩ := Kd.R_slice hu; have hbx := append_box H2.out hb2; have hS1 := blk_cell hbx 0; simp at hS1; have hL1 := blk_lt hbx)
      | (refine Kd.R_append_step KdR (w0 := w0) w0.heap.size (by rfl) (.tmp 29) (.tmp 33) 28 25 (.slice none 0 0) 24 rfl Try.underlying28 info25 rfl (by decide) (by decide) (.slice A0 F.length c0) F l [.slice Au l.length cu] (fun k => w0.heap.size ≤ k ∧ k ≠ P) (fun k => w1.heap.size ≤ k) rfl rfl (by exact list1_el hu hb2 (by have := HB1.out.size; simpa using this)) (by exact list1_ok hP H2.out H3.out) (by exact list1_fresh hP H2.out hb2) (by exact Kd.R_below (Kd.R_drew H3.out) hb2) (by exact HB1.out.drew.trans (hb2.mono (by have := HB1.out.size; simpa using this))) (by have := HB1.out.size; have := hb2.size; simp at this; omega) (by omega) ?_; intro v1 w2 hR2 hB2 hg2' hat2'; obtain ⟨A4, c4, rfl⟩ := Kd.R_slice hR2; have hbox := Aside0.mk (list1_box H2.out H3.out hb2 hg2'); have hS2 := blk_cell hbox.out 0; simp at hS2; have hF2 := blk_frozen hbox.out; have hb3 := Aside0.mk hb2; have hg3 := Aside0.mk hg2'; have hR3 := Aside0.mk hR2; have hB3 := Aside0.mk hB2; clear hb2 hg2' hR2 hB2 hat2' hu hat2 hg2))
  all_goals
    go_wp2
    go_ret
    exact ⟨rfl, list1_J hP hbox.out hB3.out hR3.out, (Kt.of_none (grown_of_below hb.out none)).trans (list1_K H3.out hb3.out hg3.out _)⟩

end Go.Proofs.Ytblfoijalcmfkaa.Hand
