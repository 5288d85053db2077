/- Two rhythms whose numbers of beats multiply to the circle's, and of which one has each divisor for a root, fill the circle: sums over roots of 1 modulo a prime. -/
import Derived.Test.YtknlablmkcabkaaDoorPj
namespace Go.Proofs.YtknlablmkcabkaaDoor.Pa
open Go.RowKit QCanonConditions Til Go.Proofs.YtknlablmkcabkaaDoorW.PrintWords Go.Proofs.YtknlablmkcabkaaDoorW.PrintLast Go.Proofs.YtknlablmkcabkaaDoorW.PrintMore
set_option linter.unusedVariables false
set_option linter.unusedSimpArgs false

def qwAll : List (Nat × List Nat) := [(1, []),
  (1, []),
  (3, [1, 2]),
  (7, [1, 4, 2]),
  (5, [1, 2, 4, 3]),
  (11, [1, 4, 5, 9, 3]),
  (7, [1, 3, 2, 6, 4, 5]),
  (29, [1, 16, 24, 7, 25, 23, 20]),
  (17, [1, 9, 13, 15, 16, 8, 4, 2]),
  (19, [1, 4, 16, 7, 9, 17, 11, 6, 5]),
  (11, [1, 2, 4, 8, 5, 10, 9, 7, 3, 6]),
  (23, [1, 4, 16, 18, 3, 12, 2, 8, 9, 13, 6]),
  (13, [1, 2, 4, 8, 3, 6, 12, 11, 9, 5, 10, 7]),
  (53, [1, 16, 44, 15, 28, 24, 13, 49, 42, 36, 46, 47, 10]),
  (29, [1, 4, 16, 6, 24, 9, 7, 28, 25, 13, 23, 5, 20, 22]),
  (31, [1, 9, 19, 16, 20, 25, 8, 10, 28, 4, 5, 14, 2, 18, 7]),
  (17, [1, 3, 9, 10, 13, 5, 15, 11, 16, 14, 8, 7, 4, 12, 2, 6]),
  (103, [1, 64, 79, 9, 61, 93, 81, 34, 13, 8, 100, 14, 72, 76, 23, 30, 66]),
  (19, [1, 2, 4, 8, 16, 13, 7, 14, 9, 18, 17, 15, 11, 3, 6, 12, 5, 10]),
  (191, [1, 69, 177, 180, 5, 154, 121, 136, 25, 6, 32, 107, 125, 30, 160, 153, 52, 150, 36]),
  (41, [1, 36, 25, 39, 10, 32, 4, 21, 18, 33, 40, 5, 16, 2, 31, 9, 37, 20, 23, 8]),
  (43, [1, 9, 38, 41, 25, 10, 4, 36, 23, 35, 14, 40, 16, 15, 6, 11, 13, 31, 21, 17, 24]),
  (23, [1, 5, 2, 10, 4, 20, 8, 17, 16, 11, 9, 22, 18, 21, 13, 19, 3, 15, 6, 7, 12, 14]),
  (47, [1, 4, 16, 17, 21, 37, 7, 28, 18, 25, 6, 24, 2, 8, 32, 34, 42, 27, 14, 9, 36, 3, 12]),
  (73, [1, 52, 3, 10, 9, 30, 27, 17, 8, 51, 24, 7, 72, 21, 70, 63, 64, 43, 46, 56, 65, 22, 49, 66])]
def qq (n : Nat) : Nat := (qwAll.getD n (1, [])).1
def ww (n k : Nat) : Int := (((qwAll.getD n (1, [])).2.getD k 0 : Nat) : Int)
/-- The sum over a list of places. -/
def S (l : List Nat) (f : Nat → Int) : Int := l.foldr (fun x acc => f x + acc) 0
theorem S_cons (x : Nat) (l : List Nat) (f : Nat → Int) : S (x :: l) f = f x + S l f := rfl
theorem S_app (l m : List Nat) (f : Nat → Int) : S (l ++ m) f = S l f + S m f := by
  induction l with
  | nil => simp [S]
  | cons x l ih => rw [List.cons_append, S_cons, S_cons, ih]; omega
theorem S_congr {l : List Nat} {f g : Nat → Int} (h : ∀ x ∈ l, f x = g x) : S l f = S l g := by
  induction l with
  | nil => rfl
  | cons x l ih => rw [S_cons, S_cons, h x (by simp), ih (fun y hy => h y (by simp [hy]))]
theorem S_add (l : List Nat) (f g : Nat → Int) : S l (fun x => f x + g x) = S l f + S l g := by
  induction l with
  | nil => rfl
  | cons x l ih => rw [S_cons, S_cons, S_cons, ih]; omega
theorem S_mul (l : List Nat) (c : Int) (f : Nat → Int) : S l (fun x => c * f x) = c * S l f := by
  induction l with
  | nil => simp [S]
  | cons x l ih => rw [S_cons, S_cons, ih, Int.mul_add]
theorem S_zero (l : List Nat) : S l (fun _ => 0) = 0 := by
  induction l with
  | nil => rfl
  | cons x l ih => rw [S_cons, ih]; rfl
theorem S_one (l : List Nat) : S l (fun _ => 1) = l.length := by
  induction l with
  | nil => rfl
  | cons x l ih => rw [S_cons, ih, List.length_cons]; omega
theorem S_comm (l m : List Nat) (f : Nat → Nat → Int) : S l (fun x => S m (fun y => f x y)) = S m (fun y => S l (fun x => f x y)) := by
  induction l with
  | nil => exact (S_zero m).symm
  | cons x l ih =>
    rw [S_cons, ih, ← S_add]
    rfl
def Cq (q : Nat) (x y : Int) : Prop := (x - y) % (q : Int) = 0
theorem Cq.refl (q : Nat) (x : Int) : Cq q x x := by unfold Cq; simp
theorem Cq.symm {q : Nat} {x y : Int} (h : Cq q x y) : Cq q y x := by
  unfold Cq at *
  rw [← Int.neg_sub]
  exact Int.emod_eq_zero_of_dvd ((Int.dvd_neg).mpr (Int.dvd_of_emod_eq_zero h))
theorem Cq.add {q : Nat} {x y u v : Int} (h : Cq q x y) (k : Cq q u v) : Cq q (x + u) (y + v) := by
  unfold Cq at *
  have e : x + u - (y + v) = (x - y) + (u - v) := by omega
  rw [e]
  exact Int.emod_eq_zero_of_dvd (Int.dvd_add (Int.dvd_of_emod_eq_zero h) (Int.dvd_of_emod_eq_zero k))
theorem Cq.trans {q : Nat} {x y z : Int} (h : Cq q x y) (k : Cq q y z) : Cq q x z := by
  unfold Cq at *
  have e : x - z = (x - y) + (y - z) := by omega
  rw [e]
  exact Int.emod_eq_zero_of_dvd (Int.dvd_add (Int.dvd_of_emod_eq_zero h) (Int.dvd_of_emod_eq_zero k))
theorem Cq.mul {q : Nat} {x y : Int} (h : Cq q x y) (z : Int) : Cq q (z * x) (z * y) := by
  unfold Cq at *
  rw [← Int.mul_sub]
  exact Int.emod_eq_zero_of_dvd (Int.dvd_trans (Int.dvd_of_emod_eq_zero h) (Int.dvd_mul_left _ _))
theorem Cq.of_eq {q : Nat} {x y : Int} (h : x = y) : Cq q x y := by rw [h]; exact Cq.refl q y
theorem S_cq {q : Nat} {l : List Nat} {f g : Nat → Int} (h : ∀ x ∈ l, Cq q (f x) (g x)) : Cq q (S l f) (S l g) := by
  induction l with
  | nil => exact Cq.refl q _
  | cons x l ih => rw [S_cons, S_cons]; exact (h x (by simp)).add (ih (fun y hy => h y (by simp [hy])))

/-- The sum of a list of coefficients, the highest first, by a function of the place. -/
def dot (f : Nat → Int) : List Int → Int
  | [] => 0
  | c :: l => c * f l.length + dot f l
theorem lst_length (g : List Int) : ∀ N, (lst g N).length = N := by
  intro N
  induction N with
  | zero => rfl
  | succ N ih => rw [lst, List.length_cons, ih]
theorem dot_lst (f : Nat → Int) (g : List Int) : ∀ N, dot f (lst g N) = S (List.range N) (fun t => rd g (t : Int) * f t) := by
  intro N
  induction N with
  | zero => rfl
  | succ N ih =>
    rw [lst, dot, ih, lst_length, List.range_succ, S_app]
    show _ = _ + (rd g (N : Int) * f N + 0)
    omega
def fourOK (n : Nat) : Bool := decide (n < qq n) && decide (ww n 0 = 1) &&
  ((List.range n).drop 1).all (fun u => decide (S (List.range n) (fun j => ww n ((j * u) % n)) % (qq n : Int) = 0)) &&
  (List.range n).all (fun i => (List.range n).all fun j => decide ((ww n ((i + j) % n) - ww n i * ww n j) % (qq n : Int) = 0)) &&
  ((List.range n).drop 1).all (fun j => decide (2 ≤ n / Nat.gcd n j) && decide (n / Nat.gcd n j ≤ n) && decide (n % (n / Nat.gcd n j) = 0) &&
    (List.range n).all fun x => decide ((ww n ((j * x) % n) - dot (fun t => ww n ((j * t) % n)) (restR n (n / Nat.gcd n j) x)) % (qq n : Int) = 0))
theorem four_2 : fourOK 2 = true := by decide +kernel
theorem four_3 : fourOK 3 = true := by decide +kernel
theorem four_4 : fourOK 4 = true := by decide +kernel
theorem four_5 : fourOK 5 = true := by decide +kernel
theorem four_6 : fourOK 6 = true := by decide +kernel
theorem four_7 : fourOK 7 = true := by decide +kernel
theorem four_8 : fourOK 8 = true := by decide +kernel
theorem four_9 : fourOK 9 = true := by decide +kernel
theorem four_10 : fourOK 10 = true := by decide +kernel
theorem four_11 : fourOK 11 = true := by decide +kernel
theorem four_12 : fourOK 12 = true := by decide +kernel
theorem four_13 : fourOK 13 = true := by decide +kernel
theorem four_14 : fourOK 14 = true := by decide +kernel
theorem four_15 : fourOK 15 = true := by decide +kernel
theorem four_16 : fourOK 16 = true := by decide +kernel
theorem four_17 : fourOK 17 = true := by decide +kernel
theorem four_18 : fourOK 18 = true := by decide +kernel
theorem four_19 : fourOK 19 = true := by decide +kernel
theorem four_20 : fourOK 20 = true := by decide +kernel
theorem four_21 : fourOK 21 = true := by decide +kernel
theorem four_22 : fourOK 22 = true := by decide +kernel
theorem four_23 : fourOK 23 = true := by decide +kernel
theorem four_24 : fourOK 24 = true := by decide +kernel
theorem four_ok (n : Nat) (h2 : 2 ≤ n) (hn : n ≤ 24) : fourOK n = true := by
  have h : n = 2 ∨ n = 3 ∨ n = 4 ∨ n = 5 ∨ n = 6 ∨ n = 7 ∨ n = 8 ∨ n = 9 ∨ n = 10 ∨ n = 11 ∨ n = 12 ∨ n = 13 ∨ n = 14 ∨ n = 15 ∨ n = 16 ∨ n = 17 ∨ n = 18 ∨ n = 19 ∨ n = 20 ∨ n = 21 ∨ n = 22 ∨ n = 23 ∨ n = 24 := by omega
  rcases h with rfl | rfl | rfl | rfl | rfl | rfl | rfl | rfl | rfl | rfl | rfl | rfl | rfl | rfl | rfl | rfl | rfl | rfl | rfl | rfl | rfl | rfl | rfl
  · exact four_2
  · exact four_3
  · exact four_4
  · exact four_5
  · exact four_6
  · exact four_7
  · exact four_8
  · exact four_9
  · exact four_10
  · exact four_11
  · exact four_12
  · exact four_13
  · exact four_14
  · exact four_15
  · exact four_16
  · exact four_17
  · exact four_18
  · exact four_19
  · exact four_20
  · exact four_21
  · exact four_22
  · exact four_23
  · exact four_24
theorem drop1 {n u : Nat} (h1 : 1 ≤ u) (h2 : u < n) : u ∈ (List.range n).drop 1 := by
  rw [List.mem_iff_getElem]
  exact ⟨u - 1, by simp; omega, by simp; omega⟩
theorem four_at (n : Nat) (h2 : 2 ≤ n) (hn : n ≤ 24) : n < qq n ∧ ww n 0 = 1 ∧ (∀ u, 1 ≤ u → u < n → Cq (qq n) (S (List.range n) (fun j => ww n ((j * u) % n))) 0) ∧
    (∀ i j, i < n → j < n → Cq (qq n) (ww n ((i + j) % n)) (ww n i * ww n j)) ∧
    (∀ j, 1 ≤ j → j < n → ∃ s, (s ∈ divs n ∧ s = n / Nat.gcd n j) ∧ ∀ x, x < n → Cq (qq n) (ww n ((j * x) % n)) (S (List.range (deg s)) (fun t => rd (rest n s x) (t : Int) * ww n ((j * t) % n)))) := by
  have h := four_ok n h2 hn
  unfold fourOK at h
  simp only [Bool.and_eq_true, decide_eq_true_eq, List.all_eq_true] at h
  obtain ⟨⟨⟨⟨h1, h3⟩, h4⟩, h5⟩, h6⟩ := h
  have hdeg := (tab_at n h2 hn).2.2
  refine ⟨h1, h3, fun u hu1 hu2 => ?_, fun i j hi hj => h5 i (List.mem_range.mpr hi) j (List.mem_range.mpr hj), fun j hj1 hj2 => ?_⟩
  · unfold Cq
    rw [Int.sub_zero]
    exact h4 u (drop1 hu1 hu2)
  · obtain ⟨⟨⟨g1, g2⟩, g3⟩, g4⟩ := h6 j (drop1 hj1 hj2)
    have hs : n / Nat.gcd n j ∈ divs n := mem_divs.mpr ⟨g2, g1, g3⟩
    refine ⟨_, ⟨hs, rfl⟩, fun x hx => ?_⟩
    have g5 := g4 x (List.mem_range.mpr hx)
    rw [restR_eq n _ x (hdeg _ hs).2.1, dot_lst] at g5
    exact g5
theorem rest_sum (n s a t : Nat) : ∀ m, S (bitsL m a) (fun k => rd (rest n s k) (t : Int)) = restS n s a t m := by
  intro m
  induction m with
  | zero => rfl
  | succ m ih =>
    have e : bitsL (m + 1) a = bitsL m a ++ (if a.testBit m = true then [m] else []) := by
      unfold bitsL
      rw [List.range_succ, List.filter_append]
      by_cases h : a.testBit m = true
      · rw [if_pos h]; simp [h]
      · rw [if_neg h]; simp [h]
    rw [e, S_app, ih, restS]
    by_cases h : a.testBit m = true
    · rw [if_pos h, if_pos h]
      show _ + (rd (rest n s m) (t : Int) + 0) = _
      omega
    · rw [if_neg h, if_neg h]
      rfl
/-- Where s is a root the sum vanishes. -/
theorem hat_zero (n a s j : Nat) (h2 : 2 ≤ n) (hn : n ≤ 24) (ha : a < 2 ^ n) (hs : s ∈ divs n) (hj : ∀ x, x < n → Cq (qq n) (ww n ((j * x) % n)) (S (List.range (deg s)) (fun t => rd (rest n s x) (t : Int) * ww n ((j * t) % n)))) (hr : isR n (a : Int) s = true) :
    Cq (qq n) (S (bitsL n a) (fun x => ww n ((j * x) % n))) 0 := by
  obtain ⟨d1, d2, d3, d4⟩ := (tab_at n h2 hn).2.2 s hs
  have hz := (isR_iff n s a hn ha d1 d2 d3 d4).mp hr
  refine (S_cq (fun x hx => hj x (mem_bitsL.mp hx).1)).trans (Cq.of_eq ?_)
  rw [S_comm]
  have : ∀ t ∈ List.range (deg s), S (bitsL n a) (fun x => rd (rest n s x) (t : Int) * ww n ((j * t) % n)) = 0 := by
    intro t ht
    have e : S (bitsL n a) (fun x => rd (rest n s x) (t : Int) * ww n ((j * t) % n)) = S (bitsL n a) (fun x => ww n ((j * t) % n) * rd (rest n s x) (t : Int)) := S_congr (fun x _ => Int.mul_comm _ _)
    rw [e, S_mul, rest_sum, hz t (List.mem_range.mp ht), Int.mul_zero]
  rw [S_congr this, S_zero]
theorem four_cover (n : Nat) (A B : List Nat) (h2 : 2 ≤ n) (hn : n ≤ 24) (hlen : A.length * B.length = n)
    (hr : ∀ j, 1 ≤ j → j < n → Cq (qq n) (S A (fun x => ww n ((j * x) % n))) 0 ∨ Cq (qq n) (S B (fun x => ww n ((j * x) % n))) 0) : ∀ z, z < n → ∃ x ∈ A, ∃ y ∈ B, (x + y) % n = z := by
  obtain ⟨q1, q2, q3, q4, q5⟩ := four_at n h2 hn
  intro z hz
  apply Classical.byContradiction
  intro hc
  have hn0 : 0 < n := by omega
  -- one way: nothing is met
  have c1 : Cq (qq n) (S (List.range n) (fun j => S A (fun x => S B (fun y => ww n ((j * (x + y + (n - z))) % n))))) 0 := by
    rw [S_comm]
    have e0 : S A (fun _ => 0) = 0 := S_zero _
    rw [← e0]
    refine S_cq (fun x hx => ?_)
    rw [S_comm]
    have e1 : S B (fun _ => 0) = 0 := S_zero _
    rw [← e1]
    refine S_cq (fun y hy => ?_)
    have hu : (x + y + (n - z)) % n ≠ 0 := by
      intro h
      refine hc ⟨x, hx, y, hy, ?_⟩
      have h3 : (x + y + (n - z) + z) % n = (x + y) % n := by rw [show x + y + (n - z) + z = x + y + n from by omega, Nat.add_mod_right]
      rw [← h3, ← Nat.mod_add_mod, h, Nat.zero_add, Nat.mod_eq_of_lt hz]
    have := q3 ((x + y + (n - z)) % n) (by omega) (Nat.mod_lt _ hn0)
    refine Cq.trans (Cq.of_eq (S_congr fun j _ => ?_)) this
    rw [Nat.mul_mod_mod]
  -- the other way: the first sum alone is left
  have c2 : Cq (qq n) (S (List.range n) (fun j => S A (fun x => S B (fun y => ww n ((j * (x + y + (n - z))) % n))))) (n : Int) := by
    obtain ⟨m, rfl⟩ : ∃ m, n = m + 1 := ⟨n - 1, by omega⟩
    rw [List.range_succ_eq_map, S_cons]
    have e0 : S A (fun x => S B (fun y => ww (m + 1) ((0 * (x + y + (m + 1 - z))) % (m + 1)))) = ((m + 1 : Nat) : Int) := by
      have : ∀ x ∈ A, S B (fun y => ww (m + 1) ((0 * (x + y + (m + 1 - z))) % (m + 1))) = (B.length : Int) * 1 := by
        intro x _
        rw [S_congr (g := fun _ => 1) (fun y _ => by rw [Nat.zero_mul, Nat.zero_mod, q2]), S_one, Int.mul_one]
      rw [S_congr this, S_mul, S_one, ← Int.natCast_mul, Nat.mul_comm, hlen]
    rw [e0]
    have hz0 : Cq (qq (m + 1)) (S ((List.range m).map Nat.succ) (fun j => S A (fun x => S B (fun y => ww (m + 1) ((j * (x + y + (m + 1 - z))) % (m + 1)))))) 0 := by
      rw [← S_zero ((List.range m).map Nat.succ)]
      refine S_cq (fun j hj => ?_)
      obtain ⟨j', hj', rfl⟩ := List.mem_map.mp hj
      have hjm := List.mem_range.mp hj'
      have k1 : ∀ x y, Cq (qq (m + 1)) (ww (m + 1) ((j'.succ * (x + y + (m + 1 - z))) % (m + 1))) (ww (m + 1) ((j'.succ * (m + 1 - z)) % (m + 1)) * (ww (m + 1) ((j'.succ * x) % (m + 1)) * ww (m + 1) ((j'.succ * y) % (m + 1)))) := by
        intro x y
        have f1 := q4 ((j'.succ * (m + 1 - z)) % (m + 1)) ((j'.succ * (x + y)) % (m + 1)) (Nat.mod_lt _ (by omega)) (Nat.mod_lt _ (by omega))
        have f2 := q4 ((j'.succ * x) % (m + 1)) ((j'.succ * y) % (m + 1)) (Nat.mod_lt _ (by omega)) (Nat.mod_lt _ (by omega))
        rw [← Nat.add_mod, ← Nat.mul_add] at f1 f2
        rw [show m + 1 - z + (x + y) = x + y + (m + 1 - z) from by omega] at f1
        exact f1.trans (f2.mul _)
      have k2 : Cq (qq (m + 1)) (S A (fun x => S B (fun y => ww (m + 1) ((j'.succ * (x + y + (m + 1 - z))) % (m + 1)))))
          (ww (m + 1) ((j'.succ * (m + 1 - z)) % (m + 1)) * (S A (fun x => ww (m + 1) ((j'.succ * x) % (m + 1))) * S B (fun y => ww (m + 1) ((j'.succ * y) % (m + 1))))) := by
        refine (S_cq (fun x hx => S_cq (fun y hy => k1 x y))).trans (Cq.of_eq ?_)
        have g1 : ∀ x ∈ A, S B (fun y => ww (m + 1) ((j'.succ * (m + 1 - z)) % (m + 1)) * (ww (m + 1) ((j'.succ * x) % (m + 1)) * ww (m + 1) ((j'.succ * y) % (m + 1)))) =
            (ww (m + 1) ((j'.succ * (m + 1 - z)) % (m + 1)) * S B (fun y => ww (m + 1) ((j'.succ * y) % (m + 1)))) * ww (m + 1) ((j'.succ * x) % (m + 1)) := by
          intro x _
          rw [S_mul, S_mul, Int.mul_assoc]
          congr 1
          rw [Int.mul_comm]
        rw [S_congr g1, S_mul, Int.mul_assoc]
        congr 1
        rw [Int.mul_comm]
      refine k2.trans ?_
      rcases hr j'.succ (by omega) (by omega) with this | this
      · have t1 := (this.mul (S B (fun y => ww (m + 1) ((j'.succ * y) % (m + 1))))).mul (ww (m + 1) ((j'.succ * (m + 1 - z)) % (m + 1)))
        rw [Int.mul_zero, Int.mul_zero, Int.mul_comm (S B _) _] at t1
        exact t1
      · have t1 := (this.mul (S A (fun y => ww (m + 1) ((j'.succ * y) % (m + 1))))).mul (ww (m + 1) ((j'.succ * (m + 1 - z)) % (m + 1)))
        rw [Int.mul_zero, Int.mul_zero] at t1
        exact t1
    have := (Cq.refl (qq (m + 1)) ((m + 1 : Nat) : Int)).add hz0
    rw [Int.add_zero] at this
    exact this
  have c3 := c1.symm.trans c2
  unfold Cq at c3
  have : (n : Int) % (qq n : Int) = 0 := by
    have := Int.emod_eq_zero_of_dvd ((Int.dvd_neg).mpr (Int.dvd_of_emod_eq_zero c3))
    rwa [Int.zero_sub, Int.neg_neg] at this
  rw [Int.emod_eq_of_lt (by omega) (by omega)] at this
  omega
theorem four_tile (n a b : Nat) (h2 : 2 ≤ n) (hn : n ≤ 24) (ha : a < 2 ^ n) (hb : b < 2 ^ n) (hlen : (bitsL n a).length * (bitsL n b).length = n) (hr : ∀ s ∈ divs n, isR n (a : Int) s = true ∨ isR n (b : Int) s = true) : Tile n a b := by
  refine ⟨fun z hz => mem_sums.mpr (four_cover n (bitsL n a) (bitsL n b) h2 hn hlen (fun j hj1 hj2 => ?_) z hz), hlen⟩
  obtain ⟨s, hs, hx⟩ := (four_at n h2 hn).2.2.2.2 j hj1 hj2
  rcases hr s hs.1 with h | h
  · exact .inl (hat_zero n a s j h2 hn ha hs.1 hx h)
  · exact .inr (hat_zero n b s j h2 hn hb hs.1 hx h)
end Go.Proofs.YtknlablmkcabkaaDoor.Pa
