/- The reference's Count, List and Fill. -/
import Derived.Test.YtblfoijalcmfkaaEqf
import Derived.Test.YtblfoijalcmfkaaPls
namespace Go.Proofs.Ytblfoijalcmfkaa.Hand
open Go.RowKit Go.Shelf Go.Proofs.YtblfoijalcmfkaaW.PrintWords Go.Proofs.YtblfoijalcmfkaaW.PrintLast Go.Proofs.YtblfoijalcmfkaaW.PrintMore Go.Proofs.YtblfoijalcmfkaaHnd Go.Proofs.Ytblfoijalcmfkaa.PRowsCounts
set_option linter.unusedVariables false
set_option linter.unusedSimpArgs false

theorem add_zero_addr (ad : Addr) : ad.add 0 = ad := by
  unfold Addr.add
  split
  · rename_i h; simp_all
  · simp_all
/-- A new row of one number. -/
theorem one_row (W : World) (x : Int) : Kd.C (Kd.int .i64) (W.alloc (.cells #[.int .i64 x] 3)) (some ⟨W.heap.size, 0, none⟩) [x].length [x] :=
  C_of_ownsRow (base := W.heap.size) (cap := 1) ⟨by simp, .inr ⟨W.heap.size, 1, #[.int .i64 x], rfl, Nat.le_refl _, blk_new W _, Nat.le_refl _, by decide, rfl, by simp⟩⟩ rfl

/-- The box of a nil slice, and a row of one 0. -/
theorem ref_start (n most k : Nat) (hn : 2 ≤ n) (hn1 : n ≤ 10) (hm : most < 1000000) (w : World) (hk : 1 + k = n) :
    Calls Try.prog 35 #[.slice (some ⟨w.heap.size + 1, 0, none⟩) 1 1, .int .i64 n, .int .i64 most, .pointer (some ⟨w.heap.size, 0, none⟩)] ((w.alloc (.cells #[.slice none 0 0] 28)).alloc (.cells #[.int .i64 0] 3))
      (WholePost w w.heap.size (wholeP n most k [0] []) ((w.alloc (.cells #[.slice none 0 0] 28)).alloc (.cells #[.int .i64 0] 3))) := by
  have h := whole_calls n most w.heap.size hn hn1 hm w (Nat.le_refl _) k [0] [] (some ⟨w.heap.size + 1, 0, none⟩) 1 ((w.alloc (.cells #[.slice none 0 0] 28)).alloc (.cells #[.int .i64 0] 3))
    ⟨((Below.refl _ _).alloc (Nat.le_refl _) _).alloc (by simp) _, none, 0, 0, blk_new0 _ _ _, Kd.R_nil _ _ _ _ _⟩ (by intro z hz; simp at hz; omega) (by simp) (by simpa using hk) (by simp)
    (by simpa using one_row (w.alloc (.cells #[.slice none 0 0] 28)) 0) (by intro ad e; cases e; exact ⟨by simp, _, blk_new1 _ _ _⟩)
  simpa using h

set_option maxHeartbeats 400000 in
theorem refCount_calls (n : Nat) (hn : 2 ≤ n) (hn1 : n ≤ 10) (w : World) :
    Calls Try.prog 12 #[.int .i64 n] w fun e w' => e = .returned (.int .i64 (wholeP n 0 (n - 1) [0] []).1) ∧ Below w.heap.size w w' := by
  have HW := Aside0.mk (ref_start n 0 (n - 1) hn hn1 (by decide) w (by omega))
  go_enter Try.func12, Try.ntmps12
  go_wp2_with fail
  refine HW.out.mono ?_
  rintro e w1 ⟨rfl, h1, _⟩
  replace h1 := Aside0.mk h1.1
  go_wp2
  go_ret
  exact ⟨rfl, h1.out⟩

set_option maxHeartbeats 400000 in
theorem refList_calls (n : Nat) (hn : 2 ≤ n) (hn1 : n ≤ 10) (w : World) :
    Calls Try.prog 15 #[.int .i64 n] w fun e w' => ∃ A c, e = .returned (.slice A (wholeP n 1000 (n - 1) [0] []).2.length c) ∧ KdR.C w' A (wholeP n 1000 (n - 1) [0] []).2.length (wholeP n 1000 (n - 1) [0] []).2 ∧ Below w.heap.size w w' := by
  have HW := Aside0.mk (ref_start n 1000 (n - 1) hn hn1 (by decide) w (by omega))
  obtain ⟨r, hr⟩ : ∃ r, wholeP n 1000 (n - 1) [0] [] = r := ⟨_, rfl⟩
  rw [hr] at HW ⊢
  clear hr
  go_enter Try.func15, Try.ntmps15
  go_wp2_with fail
  refine HW.out.mono ?_
  rintro e w1 ⟨rfl, ⟨h1, A0, m, c0, h2, h3⟩, _⟩
  obtain ⟨A1, c1, hs, hc1, hC⟩ := Kd.R_reads h3
  cases hs
  have a0 := blk_cell h2 0
  simp at a0
  replace h1 := Aside0.mk h1
  replace hC := Aside0.mk hC
  clear h2 h3
  go_wp2
  go_ret
  exact ⟨A0, c0, rfl, hC.out, h1.out⟩

def FillPost (rows : Rws) (w : World) (e : Ending) (w' : World) : Prop :=
  (rows = [] ∧ e = .returned (.tuple #[.slice none 0 0, .int .i64 4]) ∧ Below w.heap.size w w') ∨
  (∃ l r A c, rows = l :: r ∧ e = .returned (.tuple #[.slice A l.length c, .int .i64 0]) ∧ l.length ≤ c ∧ Kd.C (Kd.int .i64) w' A l.length l ∧ Below w.heap.size w w')

set_option maxHeartbeats 400000 in
theorem refFill_calls (n : Nat) (hn : 2 ≤ n) (hn1 : n ≤ 10) (w : World) (g c : Nat) (hc : 1 ≤ c) (hC : Kd.C (Kd.int .i64) w (some ⟨g, 0, none⟩) 1 [0]) (hg : ∃ cs, w.heap[g]? = some (.cells cs 3 (0, 0))) :
    Calls Try.prog 11 #[.slice (some ⟨g, 0, none⟩) 1 c, .int .i64 n] w (FillPost (wholeP n 1 (n - 1) [0] []).2 w) := by
  obtain ⟨cs, hcs⟩ := hg
  have HW := Aside0.mk (whole_calls n 1 w.heap.size hn hn1 (by decide) w (Nat.le_refl _) (n - 1) [0] [] (some ⟨g, 0, none⟩) c (w.alloc (.cells #[.slice none 0 0] 28))
    ⟨(Below.refl _ _).alloc (Nat.le_refl _) _, none, 0, 0, blk_new _ _, Kd.R_nil _ _ _ _ _⟩ (by intro z hz; simp at hz; omega) (by simp) (by simp; omega) (by simpa using hc)
    (Kd.C_alloc hC _) (by intro ad e; cases e; exact ⟨by have := blk_lt hcs; show g ≠ _; omega, _, blk_alloc hcs _⟩))
  rw [show ([0] : List Int).length = 1 from rfl] at HW
  obtain ⟨r, hr⟩ : ∃ r, wholeP n 1 (n - 1) [0] [] = r := ⟨_, rfl⟩
  rw [hr] at HW ⊢
  clear hr hcs hC
  obtain ⟨r1, F⟩ := r
  go_enter Try.func11, Try.ntmps11
  go_wp2_with fail
  refine HW.out.mono ?_
  rintro e w1 ⟨rfl, ⟨h1, A0, m, c0, h2, h3⟩, _⟩
  obtain ⟨A1, c1, hs, hc1, hC⟩ := Kd.R_reads h3
  cases hs
  have a0 := blk_cell h2 0
  simp at a0
  replace h1 := Aside0.mk h1
  clear h2 h3
  cases F with
  | nil =>
    have z1 : (((([] : Rws).length : Nat) : Int) == 0) = true := rfl
    clear hC
    go_wp2
    go_ret2
    exact .inl ⟨rfl, rfl, h1.out⟩
  | cons l R =>
    obtain ⟨ad, A', c', rfl, hcell, hle, hC'⟩ := row_at hC 0 (by simp)
    have z1 : (((((l :: R) : Rws).length : Nat) : Int) == 0) = false := beq_eq_false_iff_ne.mpr (by simp; omega)
    have z2 : ((((R : Rws).length : Nat) : Int) + 1 == 0) = false := beq_eq_false_iff_ne.mpr (by omega)
    have z3 : (0 : Int) < ((R : Rws).length : Int) + 1 := by omega
    simp only [List.getD_cons_zero, add_zero_addr] at hcell hle hC'
    have HC := Aside0.mk hC'
    clear hC hC'
    go_wp2
    go_ret2
    exact .inr ⟨l, R, A', c', rfl, rfl, hle, HC.out, h1.out⟩

end Go.Proofs.Ytblfoijalcmfkaa.Hand
