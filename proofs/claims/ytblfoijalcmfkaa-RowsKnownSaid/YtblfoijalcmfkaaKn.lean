/- Plain laws: how many rows with every step there are, and what they look like. -/
import Derived.Test.YtblfoijalcmfkaaRc
import Derived.Test.YtblfoijalcmfkaaPRowsKnownx
namespace Go.Proofs.Ytblfoijalcmfkaa.Hand
open Go.RowKit Go.Shelf Go.Proofs.YtblfoijalcmfkaaW.PrintWords Go.Proofs.YtblfoijalcmfkaaW.PrintLast Go.Proofs.YtblfoijalcmfkaaW.PrintMore Go.Proofs.YtblfoijalcmfkaaHnd Go.Proofs.Ytblfoijalcmfkaa.PRowsCounts
set_option linter.unusedVariables false
set_option linter.unusedSimpArgs false

def sumUp (f : Nat → Nat) : Nat → Nat
  | 0 => 0
  | r + 1 => sumUp f r + f r
/-- The count alone, over sets as numbers. -/
def cntM (n : Nat) : Nat → Nat → Nat → Nat → Nat
  | 0, _, _, _ => 1
  | k + 1, y, t, s => sumUp (fun x => bif Nat.testBit t x || Nat.testBit s ((x + n - y) % n) then 0 else cntM n k x (t ||| 2 ^ x) (s ||| 2 ^ ((x + n - y) % n))) n
theorem sumUp_flat (f : Nat → Nat) (g : Nat → Rws) (r : Nat) (h : ∀ i, i < r → (g i).length = f i) : ((List.range r).flatMap g).length = sumUp f r := by
  induction r with
  | zero => rfl
  | succ r ih => rw [flat_succ, List.length_append, ih (fun i hi => h i (by omega)), h r (by omega)]; rfl
theorem cntM_full (n : Nat) (hn : 2 ≤ n) (hn1 : n ≤ 10) (k : Nat) : ∀ (l : List Int) (y : Nat), InR n (l ++ [(y : Int)]) → (l ++ [(y : Int)]).Nodup → (stepsP n (l ++ [(y : Int)])).Nodup →
    (fullR n k (l ++ [(y : Int)])).length = cntM n k y (maskN (l ++ [(y : Int)])) (maskN (stepsP n (l ++ [(y : Int)]))) := by
  induction k with
  | zero => intro l y _ _ _; rfl
  | succ k ih =>
    intro l y hin hnd hsn
    rw [fullR, cntM]
    refine sumUp_flat _ _ n (fun x hx => ?_)
    have hS : Small (l ++ [(y : Int)]) := fun z hz => by have := hin z hz; omega
    have hT := stepsP_small n (by omega) (by omega) (l ++ [(y : Int)])
    have hy := hin y (by simp)
    have hm0 : 0 ≤ ((x : Int) - y) % n := Int.emod_nonneg _ (by omega)
    have hm1 : ((x : Int) - y) % n < n := Int.emod_lt_of_pos _ (by omega)
    have hmn : (((x + n - y) % n : Nat) : Int) = ((x : Int) - y) % n := by
      rw [Int.natCast_emod, Int.natCast_sub (by omega), Int.natCast_add]
      rw [show (x : Int) + n - y = (x - y) + n from by omega, Int.add_emod_right]
    rw [maskN_test _ hS, maskN_test _ hT, hmn]
    have e1 : (l ++ [(y : Int)] ++ [(x : Int)]).Nodup ↔ (x : Int) ∉ l ++ [(y : Int)] := by rw [nodup_snoc]; exact ⟨fun h => h.2, fun h => ⟨hnd, h⟩⟩
    have e2 : (stepsP n (l ++ [(y : Int)]) ++ [((x : Int) - y) % n]).Nodup ↔ ((x : Int) - y) % n ∉ stepsP n (l ++ [(y : Int)]) := by rw [nodup_snoc]; exact ⟨fun h => h.2, fun h => ⟨hsn, h⟩⟩
    unfold paB evB
    rw [stepsP_snoc]
    by_cases h1 : (x : Int) ∈ l ++ [(y : Int)]
    · rw [decide_eq_false (fun hh => e1.1 hh h1), decide_eq_true h1]; rfl
    · by_cases h2 : ((x : Int) - y) % n ∈ stepsP n (l ++ [(y : Int)])
      · rw [decide_eq_true (e1.2 h1), decide_eq_false (fun hh => e2.1 hh h2), decide_eq_false h1, decide_eq_true h2]; rfl
      · rw [decide_eq_true (e1.2 h1), decide_eq_true (e2.2 h2), decide_eq_false h1, decide_eq_false h2]
        have hin' : InR n (l ++ [(y : Int)] ++ [(x : Int)]) := by
          intro z hz
          rcases List.mem_append.1 hz with h | h
          · exact hin z h
          · simp at h; omega
        have := ih (l ++ [(y : Int)]) x hin' (e1.2 h1) (by rw [stepsP_snoc]; exact e2.2 h2)
        simp only [Bool.and_self, if_true, Bool.or_self, cond_false]
        rw [this, maskN_snoc (l ++ [(y : Int)]) (x : Int), stepsP_snoc, maskN_snoc (stepsP n (l ++ [(y : Int)])) _]
        rw [show (x : Int).toNat = x from rfl, ← hmn, Int.toNat_natCast]
theorem cnt_start (n : Nat) (hn : 2 ≤ n) (hn1 : n ≤ 10) : (rows0 n).length = cntM n (n - 1) 0 1 0 := by
  have := cntM_full n hn hn1 (n - 1) [] 0 (by intro z hz; simp at hz; omega) (by simp) (by simp [stepsP])
  simpa [maskN, stepsP, rows0] using this
theorem cnt_9 : cntM 9 8 0 1 0 = 0 := by kernel_rfl
theorem cnt_10 : cntM 10 9 0 1 0 = 288 := by kernel_rfl
theorem rows_2 : rows0 2 = [[0, 1]] := by kernel_rfl
theorem rows_3 : rows0 3 = [] := by kernel_rfl
theorem rows_4 : rows0 4 = [[0, 1, 3, 2], [0, 3, 1, 2]] := by kernel_rfl
theorem rows_5 : rows0 5 = [] := by kernel_rfl
theorem rows_6 : rows0 6 = [[0, 1, 5, 2, 4, 3], [0, 2, 1, 4, 5, 3], [0, 4, 5, 2, 1, 3], [0, 5, 1, 4, 2, 3]] := by kernel_rfl
theorem rows_7 : rows0 7 = [] := by kernel_rfl
theorem rows_8 : rows0 8 = [[0, 1, 3, 6, 2, 7, 5, 4], [0, 1, 6, 5, 3, 7, 2, 4], [0, 1, 7, 2, 6, 3, 5, 4], [0, 1, 7, 3, 6, 5, 2, 4], [0, 2, 1, 5, 3, 6, 7, 4], [0, 2, 3, 6, 5, 1, 7, 4], [0, 2, 5, 1, 7, 6, 3, 4], [0, 2, 7, 6, 1, 5, 3, 4], [0, 3, 1, 2, 6, 5, 7, 4], [0, 3, 2, 7, 1, 5, 6, 4], [0, 3, 5, 1, 2, 7, 6, 4], [0, 3, 5, 6, 2, 1, 7, 4], [0, 5, 3, 2, 6, 7, 1, 4], [0, 5, 3, 7, 6, 1, 2, 4], [0, 5, 6, 1, 7, 3, 2, 4], [0, 5, 7, 6, 2, 3, 1, 4], [0, 6, 1, 2, 7, 3, 5, 4], [0, 6, 3, 7, 1, 2, 5, 4], [0, 6, 5, 2, 3, 7, 1, 4], [0, 6, 7, 3, 5, 2, 1, 4], [0, 7, 1, 5, 2, 3, 6, 4], [0, 7, 1, 6, 2, 5, 3, 4], [0, 7, 2, 3, 5, 1, 6, 4], [0, 7, 5, 2, 6, 1, 3, 4]] := by kernel_rfl

/-- How many there are. -/
def known : Nat → Nat
  | 2 => 1
  | 4 => 2
  | 6 => 4
  | 8 => 24
  | 10 => 288
  | _ => 0
theorem known_ok (n : Nat) (hn : 2 ≤ n) (hn1 : n ≤ 10) : (rows0 n).length = known n := by
  have hc : n = 2 ∨ n = 3 ∨ n = 4 ∨ n = 5 ∨ n = 6 ∨ n = 7 ∨ n = 8 ∨ n = 9 ∨ n = 10 := by omega
  rcases hc with rfl | rfl | rfl | rfl | rfl | rfl | rfl | rfl | rfl
  · rw [rows_2]; rfl
  · rw [rows_3]; rfl
  · rw [rows_4]; rfl
  · rw [rows_5]; rfl
  · rw [rows_6]; rfl
  · rw [rows_7]; rfl
  · rw [rows_8]; rfl
  · rw [cnt_start 9 (by omega) (by omega)]; exact cnt_9
  · rw [cnt_start 10 (by omega) (by omega)]; exact cnt_10

def rowB (n : Nat) (x : List Int) : Bool :=
  (PRowsKnown.sackbutref05_Row.f 20 x == some true) && (x.length == n) && (sackbutref05_Every.f 20 x n == some true) && (rd x 0 == 0) && (2 * rd x ((n : Int) - 1) == (n : Int))
def cmpB : Option (List Int) → List Int → Bool
  | none, _ => true
  | some y, x => PRowsKnown.slices_Compare_int_int.f 20 y x == some (-1)
def rowsB (n : Nat) : Rws → Option (List Int) → Bool
  | [], _ => true
  | x :: r, p => rowB n x && cmpB p x && rowsB n r (some x)
theorem rb_2 : rowsB 2 [[0, 1]] none = true := by kernel_rfl
theorem rb_3 : rowsB 3 [] none = true := by kernel_rfl
theorem rb_4 : rowsB 4 [[0, 1, 3, 2], [0, 3, 1, 2]] none = true := by kernel_rfl
theorem rb_5 : rowsB 5 [] none = true := by kernel_rfl
theorem rb_6 : rowsB 6 [[0, 1, 5, 2, 4, 3], [0, 2, 1, 4, 5, 3], [0, 4, 5, 2, 1, 3], [0, 5, 1, 4, 2, 3]] none = true := by kernel_rfl
theorem rb_7 : rowsB 7 [] none = true := by kernel_rfl
theorem rb_8 : rowsB 8 [[0, 1, 3, 6, 2, 7, 5, 4], [0, 1, 6, 5, 3, 7, 2, 4], [0, 1, 7, 2, 6, 3, 5, 4], [0, 1, 7, 3, 6, 5, 2, 4], [0, 2, 1, 5, 3, 6, 7, 4], [0, 2, 3, 6, 5, 1, 7, 4], [0, 2, 5, 1, 7, 6, 3, 4], [0, 2, 7, 6, 1, 5, 3, 4], [0, 3, 1, 2, 6, 5, 7, 4], [0, 3, 2, 7, 1, 5, 6, 4], [0, 3, 5, 1, 2, 7, 6, 4], [0, 3, 5, 6, 2, 1, 7, 4], [0, 5, 3, 2, 6, 7, 1, 4], [0, 5, 3, 7, 6, 1, 2, 4], [0, 5, 6, 1, 7, 3, 2, 4], [0, 5, 7, 6, 2, 3, 1, 4], [0, 6, 1, 2, 7, 3, 5, 4], [0, 6, 3, 7, 1, 2, 5, 4], [0, 6, 5, 2, 3, 7, 1, 4], [0, 6, 7, 3, 5, 2, 1, 4], [0, 7, 1, 5, 2, 3, 6, 4], [0, 7, 1, 6, 2, 5, 3, 4], [0, 7, 2, 3, 5, 1, 6, 4], [0, 7, 5, 2, 6, 1, 3, 4]] none = true := by kernel_rfl
theorem rowsB_ok (n : Nat) (hn : 2 ≤ n) (hn1 : n ≤ 8) : rowsB n (rows0 n) none = true := by
  have hc : n = 2 ∨ n = 3 ∨ n = 4 ∨ n = 5 ∨ n = 6 ∨ n = 7 ∨ n = 8 := by omega
  rcases hc with rfl | rfl | rfl | rfl | rfl | rfl | rfl
  · rw [rows_2]; exact rb_2
  · rw [rows_3]; exact rb_3
  · rw [rows_4]; exact rb_4
  · rw [rows_5]; exact rb_5
  · rw [rows_6]; exact rb_6
  · rw [rows_7]; exact rb_7
  · rw [rows_8]; exact rb_8
structure RowOk (n : Nat) (x : List Int) : Prop where
  row : PRowsKnown.sackbutref05_Row.f 20 x = some true
  len : x.length = n
  every : sackbutref05_Every.f 20 x n = some true
  head : rd x 0 = 0
  last : 2 * rd x ((n : Int) - 1) = (n : Int)
theorem rowB_ok {n : Nat} {x : List Int} (h : rowB n x = true) : RowOk n x := by
  unfold rowB at h
  simp only [Bool.and_eq_true, beq_iff_eq] at h
  exact ⟨h.1.1.1.1, h.1.1.1.2, h.1.1.2, h.1.2, h.2⟩
theorem rowsB_at {n : Nat} : ∀ (R : Rws) (p : Option (List Int)), rowsB n R p = true → ∀ i, i < R.length → RowOk n (R.getD i []) ∧ (0 < i → PRowsKnown.slices_Compare_int_int.f 20 (R.getD (i - 1) []) (R.getD i []) = some (-1))
  | [], _, _, i, hi => by simp at hi
  | x :: r, p, h, i, hi => by
    simp only [rowsB, Bool.and_eq_true] at h
    cases i with
    | zero => exact ⟨rowB_ok h.1.1, fun h0 => absurd h0 (Nat.lt_irrefl 0)⟩
    | succ i =>
      have ih := rowsB_at r (some x) h.2 i (by simpa using hi)
      refine ⟨by simpa using ih.1, fun _ => ?_⟩
      cases i with
      | zero =>
        cases r with
        | nil => simp at hi
        | cons z r =>
          have h2 := h.2
          simp only [rowsB, cmpB, Bool.and_eq_true, beq_iff_eq] at h2
          simpa using h2.1.2
      | succ i => simpa using ih.2 (by omega)

end Go.Proofs.Ytblfoijalcmfkaa.Hand
