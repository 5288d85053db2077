/- Plain laws: both searches find the same rows. -/
import Derived.Test.YtblfoijalcmfkaaWhm
namespace Go.Proofs.Ytblfoijalcmfkaa.Hand
open Go.RowKit Go.Shelf Go.Proofs.YtblfoijalcmfkaaW.PrintWords Go.Proofs.YtblfoijalcmfkaaW.PrintLast Go.Proofs.YtblfoijalcmfkaaW.PrintMore Go.Proofs.YtblfoijalcmfkaaHnd Go.Proofs.Ytblfoijalcmfkaa.PRowsCounts
set_option linter.unusedVariables false
set_option linter.unusedSimpArgs false

/-- All rows with every step that begin so. -/
def fullR (n : Nat) : Nat → List Int → Rws
  | 0, l => [l]
  | k + 1, l => (List.range n).flatMap fun (x : Nat) => if paB (l ++ [(x : Int)]) && evB n (l ++ [(x : Int)]) then fullR n k (l ++ [(x : Int)]) else []

theorem flat_congr {α : Type} (f g : Nat → List α) (n : Nat) (h : ∀ i, i < n → f i = g i) : (List.range n).flatMap f = (List.range n).flatMap g := by
  induction n with
  | zero => rfl
  | succ n ih => rw [flat_succ, flat_succ, ih (fun i hi => h i (by omega)), h n (by omega)]

theorem allR_full (n : Nat) (hn : 2 ≤ n) (hn1 : n ≤ 10) (k : Nat) : ∀ (l : List Int) (y : Int), InR n (l ++ [y]) → (l ++ [y]).Nodup → (stepsP n (l ++ [y])).Nodup →
    allR n k l y (maskN (l ++ [y])) (maskN (stepsP n (l ++ [y]))) = fullR n k (l ++ [y]) := by
  induction k with
  | zero => intro l y _ _ _; rfl
  | succ k ih =>
    intro l y hin hnd hsn
    rw [allR_succ, fullR, Int.toNat_natCast]
    refine flat_congr _ _ n (fun x hx => ?_)
    have hS : Small (l ++ [y]) := fun z hz => by have := hin z hz; omega
    have hT := stepsP_small n (by omega) (by omega) (l ++ [y])
    have hy := hin y (by simp)
    have hm0 : 0 ≤ ((x : Int) - y) % n := Int.emod_nonneg _ (by omega)
    have hm1 : ((x : Int) - y) % n < n := Int.emod_lt_of_pos _ (by omega)
    have hadd : addB n (maskN (l ++ [y])) (maskN (stepsP n (l ++ [y]))) x y = (paB (l ++ [y] ++ [(x : Int)]) && evB n (l ++ [y] ++ [(x : Int)])) := by
      unfold addB paB evB
      rw [has_mask _ hS _ (by omega), has_mask _ hT _ hm0, stepsP_snoc]
      have e1 : (l ++ [y] ++ [(x : Int)]).Nodup ↔ (x : Int) ∉ l ++ [y] := by rw [nodup_snoc]; exact ⟨fun h => h.2, fun h => ⟨hnd, h⟩⟩
      have e2 : (stepsP n (l ++ [y]) ++ [((x : Int) - y) % n]).Nodup ↔ ((x : Int) - y) % n ∉ stepsP n (l ++ [y]) := by rw [nodup_snoc]; exact ⟨fun h => h.2, fun h => ⟨hsn, h⟩⟩
      have d1 : decide ((l ++ [y] ++ [(x : Int)]).Nodup) = !(decide ((x : Int) ∈ l ++ [y])) := by
        by_cases h : (x : Int) ∈ l ++ [y]
        · rw [decide_eq_false (fun hh => e1.1 hh h), decide_eq_true h]; rfl
        · rw [decide_eq_true (e1.2 h), decide_eq_false h]; rfl
      have d2 : decide ((stepsP n (l ++ [y]) ++ [((x : Int) - y) % n]).Nodup) = !(decide (((x : Int) - y) % n ∈ stepsP n (l ++ [y]))) := by
        by_cases h : ((x : Int) - y) % n ∈ stepsP n (l ++ [y])
        · rw [decide_eq_false (fun hh => e2.1 hh h), decide_eq_true h]; rfl
        · rw [decide_eq_true (e2.2 h), decide_eq_false h]; rfl
      rw [d1, d2]
      by_cases h1 : (x : Int) ∈ l ++ [y] <;> by_cases h2 : ((x : Int) - y) % n ∈ stepsP n (l ++ [y]) <;> simp [h1, h2]
    unfold kidR
    rw [hadd]
    by_cases hc : (paB (l ++ [y] ++ [(x : Int)]) && evB n (l ++ [y] ++ [(x : Int)])) = true
    · rw [if_pos hc, if_pos hc]
      simp only [Bool.and_eq_true, paB, evB, decide_eq_true_eq] at hc
      have hin' : InR n (l ++ [y] ++ [(x : Int)]) := by
        intro z hz
        rcases List.mem_append.1 hz with h | h
        · exact hin z h
        · simp at h; omega
      have := ih (l ++ [y]) x hin' hc.1 hc.2
      rw [← this]
      unfold putT
      rw [wrap_pow _ (by omega), wrap_pow _ (by omega), put_mask _ hS _ (by omega) (by omega), put_mask _ hT _ hm0 (by omega), ← stepsP_snoc]
    · rw [if_neg hc, if_neg hc]

/-- Both begin with 0. -/
theorem allR_start (n : Nat) (hn : 2 ≤ n) (hn1 : n ≤ 10) : allR n (n - 1) [] 0 1 0 = fullR n (n - 1) [0] := by
  have := allR_full n hn hn1 (n - 1) [] 0 (by intro z hz; simp at hz; omega) (by simp) (by simp [stepsP])
  simpa [maskN, stepsP] using this

def rowsAt (n k : Nat) (l : List Int) : Rws := if evB n l then fullR n k l else []
def kidAt (n k : Nat) (l : List Int) (x : Nat) : Rws := if paB (l ++ [(x : Int)]) then rowsAt n k (l ++ [(x : Int)]) else []
theorem fullR_kids (n k : Nat) (l : List Int) : fullR n (k + 1) l = (List.range n).flatMap (kidAt n k l) := by
  rw [fullR]
  refine flat_congr _ _ n (fun x _ => ?_)
  unfold kidAt rowsAt
  cases paB (l ++ [(x : Int)]) <;> simp
def tailAt (f : Nat → Rws) (n : Nat) : Nat → Rws
  | 0 => []
  | r + 1 => f (n - (r + 1)) ++ tailAt f n r
theorem tailAt_all (f : Nat → Rws) (n : Nat) (r : Nat) : r ≤ n → (List.range (n - r)).flatMap f ++ tailAt f n r = (List.range n).flatMap f := by
  induction r with
  | zero => intro _; simp [tailAt]
  | succ r ih =>
    intro h
    rw [← ih (by omega), tailAt, ← List.append_assoc]
    congr 1
    rw [show n - r = (n - (r + 1)) + 1 from by omega, flat_succ]
theorem fullR_tail (n k : Nat) (l : List Int) : fullR n (k + 1) l = tailAt (kidAt n k l) n n := by
  rw [fullR_kids, ← tailAt_all (kidAt n k l) n n (Nat.le_refl _)]; simp

theorem rowsAt_le (n k : Nat) (l : List Int) : (rowsAt n k l).length ≤ n ^ k := by
  induction k generalizing l with
  | zero => unfold rowsAt; split <;> simp [fullR]
  | succ k ih =>
    unfold rowsAt
    split
    · rw [fullR_kids, Nat.pow_succ, Nat.mul_comm]
      refine flat_le _ _ (fun i => ?_) n
      unfold kidAt
      split
      · exact ih _
      · simp
    · simp

/-- The reference's count, if nothing stops it. -/
theorem whole_count (n most : Nat) (hm : most ≠ 1) (hn1 : n ≤ 10) (k : Nat) : k ≤ 9 → ∀ l F, (wholeP n most k l F).1 = ((rowsAt n k l).length : Int) := by
  induction k with
  | zero => intro _ l F; unfold wholeP rowsAt; cases evB n l <;> simp [fullR]
  | succ k ih =>
    intro hk l F
    have hpow : n ^ (k + 1) ≤ 1000000000 := by
      have h1 : n ^ (k + 1) ≤ 10 ^ (k + 1) := Nat.pow_le_pow_left hn1 _
      have h3 : 10 ^ (k + 1) ≤ 10 ^ 9 := Nat.pow_le_pow_right (by decide) (by omega)
      omega
    unfold wholeP
    have hrl := rowsAt_le n (k + 1) l
    unfold rowsAt at hrl ⊢
    cases hev : evB n l with
    | false => simp
    | true =>
      rw [hev] at hrl
      simp only [if_true] at hrl ⊢
      rw [fullR_tail] at hrl ⊢
      have key : ∀ (r : Nat) (c : Int) (G : Rws), 0 ≤ c → c + (tailAt (kidAt n k l) n r).length ≤ 1000000000 → (loopW n most (wholeP n most k) l r c G).1 = c + (tailAt (kidAt n k l) n r).length := by
        intro r
        induction r with
        | zero => intro c G _ _; simp [loopW, tailAt]
        | succ r ihr =>
          intro c G h0 hc
          rw [tailAt, List.length_append] at hc
          rw [loopW, tailAt, List.length_append]
          cases hpa : paB (l ++ [((n - (r + 1) : Nat) : Int)]) with
          | false =>
            have hk0 : kidAt n k l (n - (r + 1)) = [] := by unfold kidAt; rw [hpa]; rfl
            rw [hk0] at hc ⊢
            simp only [Bool.false_eq_true, if_false, List.length_nil] at hc ⊢
            rw [ihr c G h0 (by omega)]
            omega
          | true =>
            have hk0 : kidAt n k l (n - (r + 1)) = rowsAt n k (l ++ [((n - (r + 1) : Nat) : Int)]) := by unfold kidAt; rw [hpa]; rfl
            rw [hk0] at hc ⊢
            simp only [if_true]
            rw [if_neg (fun h => hm h.1), ih (by omega), wrap64_id _ (by omega) (by omega), ihr _ _ (by omega) (by omega)]
            omega
      rw [key n 0 F (by omega) (by omega)]
      omega

/-- The reference's rows, if no bound stops it. -/
theorem whole_rows (n most : Nat) (hm : most ≠ 1) (k : Nat) : ∀ l F, F.length + (rowsAt n k l).length ≤ most → (wholeP n most k l F).2 = F ++ rowsAt n k l := by
  induction k with
  | zero =>
    intro l F hF
    unfold wholeP rowsAt at *
    cases hev : evB n l with
    | false => simp
    | true =>
      rw [hev] at hF
      simp only [if_true, fullR, List.length_singleton] at hF ⊢
      rw [if_pos (by omega)]
  | succ k ih =>
    intro l F hF
    unfold wholeP
    unfold rowsAt at hF ⊢
    cases hev : evB n l with
    | false => simp
    | true =>
      rw [hev] at hF
      simp only [if_true] at hF ⊢
      rw [fullR_tail] at hF ⊢
      have key : ∀ (r : Nat) (c : Int) (G : Rws), G.length + (tailAt (kidAt n k l) n r).length ≤ most → (loopW n most (wholeP n most k) l r c G).2 = G ++ tailAt (kidAt n k l) n r := by
        intro r
        induction r with
        | zero => intro c G _; simp [loopW, tailAt]
        | succ r ihr =>
          intro c G hc
          rw [tailAt, List.length_append] at hc
          rw [loopW, tailAt]
          cases hpa : paB (l ++ [((n - (r + 1) : Nat) : Int)]) with
          | false =>
            have hk0 : kidAt n k l (n - (r + 1)) = [] := by unfold kidAt; rw [hpa]; rfl
            rw [hk0] at hc ⊢
            simp only [Bool.false_eq_true, if_false, List.length_nil, List.nil_append] at hc ⊢
            exact ihr c G (by omega)
          | true =>
            have hk0 : kidAt n k l (n - (r + 1)) = rowsAt n k (l ++ [((n - (r + 1) : Nat) : Int)]) := by unfold kidAt; rw [hpa]; rfl
            rw [hk0] at hc ⊢
            simp only [if_true]
            rw [if_neg (fun h => hm h.1), ih _ G (by omega), ihr _ _ (by rw [List.length_append]; omega), List.append_assoc]
      exact key n 0 F hF

/-- The reference's first row. -/
theorem whole_first (n : Nat) (k : Nat) : ∀ l, (wholeP n 1 k l []).2 = (rowsAt n k l).take 1 := by
  induction k with
  | zero => intro l; unfold wholeP rowsAt; cases evB n l <;> simp [fullR]
  | succ k ih =>
    intro l
    unfold wholeP rowsAt
    cases hev : evB n l with
    | false => simp
    | true =>
      simp only [if_true]
      rw [fullR_tail]
      have key : ∀ (r : Nat) (c : Int), (loopW n 1 (wholeP n 1 k) l r c []).2 = (tailAt (kidAt n k l) n r).take 1 := by
        intro r
        induction r with
        | zero => intro c; simp [loopW, tailAt]
        | succ r ihr =>
          intro c
          rw [loopW, tailAt]
          cases hpa : paB (l ++ [((n - (r + 1) : Nat) : Int)]) with
          | false =>
            have hk0 : kidAt n k l (n - (r + 1)) = [] := by unfold kidAt; rw [hpa]; rfl
            rw [hk0]
            simp only [Bool.false_eq_true, if_false, List.nil_append]
            exact ihr c
          | true =>
            have hk0 : kidAt n k l (n - (r + 1)) = rowsAt n k (l ++ [((n - (r + 1) : Nat) : Int)]) := by unfold kidAt; rw [hpa]; rfl
            rw [hk0]
            simp only [if_true, true_and]
            rw [ih]
            cases hq : rowsAt n k (l ++ [((n - (r + 1) : Nat) : Int)]) with
            | nil => simp; exact ihr _
            | cons a b => simp
      exact key n 0

theorem start_ev (n : Nat) : evB n [0] = true := by simp [evB, stepsP]
theorem rowsAt_start (n : Nat) : rowsAt n (n - 1) [0] = fullR n (n - 1) [0] := by unfold rowsAt; rw [start_ev]; rfl
theorem full8 : ∀ n, 2 ≤ n → n ≤ 8 → (fullR n (n - 1) [0]).length ≤ 1000 := by
  intro n h1 h2
  have e2 : Nat.ble (fullR 2 1 [0]).length 1000 = true := by kernel_rfl
  have e3 : Nat.ble (fullR 3 2 [0]).length 1000 = true := by kernel_rfl
  have e4 : Nat.ble (fullR 4 3 [0]).length 1000 = true := by kernel_rfl
  have e5 : Nat.ble (fullR 5 4 [0]).length 1000 = true := by kernel_rfl
  have e6 : Nat.ble (fullR 6 5 [0]).length 1000 = true := by kernel_rfl
  have e7 : Nat.ble (fullR 7 6 [0]).length 1000 = true := by kernel_rfl
  have e8 : Nat.ble (fullR 8 7 [0]).length 1000 = true := by kernel_rfl
  have hn : n = 2 ∨ n = 3 ∨ n = 4 ∨ n = 5 ∨ n = 6 ∨ n = 7 ∨ n = 8 := by omega
  rcases hn with rfl | rfl | rfl | rfl | rfl | rfl | rfl
  · exact Nat.le_of_ble_eq_true e2
  · exact Nat.le_of_ble_eq_true e3
  · exact Nat.le_of_ble_eq_true e4
  · exact Nat.le_of_ble_eq_true e5
  · exact Nat.le_of_ble_eq_true e6
  · exact Nat.le_of_ble_eq_true e7
  · exact Nat.le_of_ble_eq_true e8

end Go.Proofs.Ytblfoijalcmfkaa.Hand
