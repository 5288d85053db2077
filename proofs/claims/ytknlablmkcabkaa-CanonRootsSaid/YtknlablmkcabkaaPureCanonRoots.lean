/- Roots, First, Second and Build of the program answer as the reference's; what is no rhythm is refused by all four. -/
import Derived.Test.YtknlablmkcabkaaPh
namespace Go.Proofs.Ytknlablmkcabkaa.Pure
open Go.RowKit Go.Proofs.Ytknlablmkcabkaa.QCanonRoots Go.Proofs.YtknlablmkcabkaaW.PrintWords Go.Proofs.YtknlablmkcabkaaW.PrintMore Go.Proofs.YtknlablmkcabkaaW.PrintLast Go.Proofs.Ytknlablmkcabkaa.Pa
set_option linter.unusedVariables false
set_option linter.unusedSimpArgs false

theorem shl_all : (List.range 25).all (fun n => wrap64 (2 ^ n) == ((2 ^ n : Nat) : Int) && shl .i64 1 (n : Int) == ((2 ^ n : Nat) : Int)) = true := by decide +kernel
theorem shl_at (n : Nat) (h : n ≤ 24) : wrap64 (2 ^ n) = ((2 ^ n : Nat) : Int) ∧ shl .i64 1 (n : Int) = ((2 ^ n : Nat) : Int) := by
  have := List.all_eq_true.mp shl_all n (List.mem_range.mpr (by omega))
  simpa using this
theorem awake_some : ∃ k, sackbutlaw02_awake.f k = some true := ⟨100, by decide +kernel⟩
theorem valid_eq (n a : Int) : canon_circle_valid.f n [a] = some (decide (2 ≤ n) && decide (n ≤ 24) && !badR n a) := by
  unfold canon_circle_valid.f
  rw [if_pos (by simp)]
  simp
/-- Is a number a rhythm? -/
theorem rhythm_cases (n a : Int) : (sackbutref02_Rhythm.f n a = some false ∧ canon_circle_valid.f n [a] = some false) ∨
    (sackbutref02_Rhythm.f n a = some true ∧ canon_circle_valid.f n [a] = some true ∧ ∃ m x : Nat, n = m ∧ a = x ∧ 2 ≤ m ∧ m ≤ 24 ∧ x < 2 ^ m) := by
  rw [valid_eq]
  unfold sackbutref02_Rhythm.f
  by_cases h1 : n ≥ 2
  · rw [if_pos h1]
    by_cases h2 : n ≤ 24
    · obtain ⟨m, rfl⟩ : ∃ m : Nat, n = m := ⟨n.toNat, by omega⟩
      obtain ⟨e1, e2⟩ := shl_at m (by omega)
      rw [if_pos h2, e2, decide_eq_true (show (2 : Int) ≤ m from h1), decide_eq_true h2]
      unfold badR
      rw [Int.toNat_natCast, e1]
      by_cases h3 : a ≥ 0
      · rw [if_pos h3, if_pos (by omega)]
        by_cases h4 : a < ((2 ^ m : Nat) : Int)
        · rw [if_pos h4, decide_eq_false (show ¬ a < 0 from by omega), decide_eq_false (show ¬ ((2 ^ m : Nat) : Int) ≤ a from by omega)]
          have hor : Go.bits .and .i64 a 1 = 0 ∨ Go.bits .and .i64 a 1 = 1 := by
            have : Go.bits .and .i64 a 1 = a % 2 ^ 1 := bits_mask .i64 63 (by decide) (fun n h0 h1 => by rw [IntKind.wrap_i64]; omega) 1 (by decide) a h3 (by
              have : (2 ^ m : Nat) ≤ 2 ^ 24 := Nat.pow_le_pow_right (by decide) (by omega)
              omega)
            omega
          rcases hor with h5 | h5
          · left; rw [h5]; exact ⟨rfl, rfl⟩
          · right
            rw [h5]
            exact ⟨rfl, rfl, m, a.toNat, rfl, by omega, by omega, by omega, by omega⟩
        · left
          rw [if_neg h4, decide_eq_true (show ((2 ^ m : Nat) : Int) ≤ a from by omega)]
          simp
      · left
        rw [if_neg h3, decide_eq_true (show a < 0 from by omega)]
        simp
    · left
      rw [if_neg h2, decide_eq_false h2]
      simp
  · left
    rw [if_neg h1, decide_eq_false h1]
    simp

theorem build_same (n x : Nat) (h2 : 2 ≤ n) (hn : n ≤ 24) (hx : x < 2 ^ n) (b1 b2 : Bool) (hv : canon_circle_valid.f (n : Int) [(x : Int)] = some true)
    (h1 : Tot (fun k => canon_circle_first.f k (n : Int) (x : Int)) b1) (h1' : Tot (fun k => sackbutref02_First.f k (n : Int) (x : Int)) b1)
    (hs : canon_circle_second.f (n : Int) (x : Int) = some b2) (hs' : sackbutref02_Second.f (n : Int) (x : Int) = some b2) :
    ∃ v, Tot (fun k => canon_Build.f k (n : Int) (x : Int)) v ∧ Tot (fun k => sackbutref02_Build.f k (n : Int) (x : Int)) v := by
  have j1 : Tot (fun k => canon_Build.j0 k (n : Int) (x : Int) (n : Int) true) (0, 4) := (Tot.of (F := fun _ => some ((0 : Int), (4 : Int))) fun _ => rfl).succ (fun k => by rw [canon_Build.j0, if_pos rfl])
  have j2 : Tot (fun k => sackbutref02_Build.j0 k (n : Int) (x : Int) true) (0, 4) := (Tot.of (F := fun _ => some ((0 : Int), (4 : Int))) fun _ => rfl).succ (fun k => by rw [sackbutref02_Build.j0, if_pos rfl])
  cases b1 with
  | false =>
    refine ⟨(0, 4), (h1.bind (H := fun k t => if t = true then ((canon_circle_second.f n x).bind fun t197 => (canon_Build.j0 k n x n (!t197))) else (canon_Build.j0 k n x n true)) (j1.eq fun k => ?_)).eq (fun k => ?_),
      (h1'.bind (H := fun k t254 => if t254 = true then ((sackbutref02_Second.f n x).bind fun t255 => (sackbutref02_Build.j0 k n x (!t255))) else (sackbutref02_Build.j0 k n x true)) (j2.eq fun k => ?_)).eq (fun k => ?_)⟩
    · rw [if_neg (by simp)]
    · unfold canon_Build.f
      rw [hv, Option.bind_some, if_pos rfl]
    · rw [if_neg (by simp)]
    · unfold sackbutref02_Build.f; rfl
  | true =>
    cases b2 with
    | false =>
      refine ⟨(0, 4), (h1.bind (H := fun k t => if t = true then ((canon_circle_second.f n x).bind fun t197 => (canon_Build.j0 k n x n (!t197))) else (canon_Build.j0 k n x n true)) (j1.eq fun k => ?_)).eq (fun k => ?_),
        (h1'.bind (H := fun k t254 => if t254 = true then ((sackbutref02_Second.f n x).bind fun t255 => (sackbutref02_Build.j0 k n x (!t255))) else (sackbutref02_Build.j0 k n x true)) (j2.eq fun k => ?_)).eq (fun k => ?_)⟩
      · rw [if_pos rfl, hs, Option.bind_some]; rfl
      · unfold canon_Build.f
        rw [hv, Option.bind_some, if_pos rfl]
      · rw [if_pos rfl, hs', Option.bind_some]; rfl
      · unfold sackbutref02_Build.f; rfl
    | true =>
      have hm : n ∈ (List.range 25).drop 2 := by
        rw [List.mem_iff_getElem]
        exact ⟨n - 2, by simp; omega, by simp; omega⟩
      have hb := List.all_eq_true.mp (List.all_eq_true.mp bld_all n hm) (rootsL n (isR n x)) (rl_mem n _ _ _)
      have hr := roots_tot (x : Int) n hn h2
      have hL : ∀ y : Nat, 2 ≤ y → y ≤ n → n % y = 0 → ((y : Int) ∈ rootsL n (isR n x) ↔ isR n x y = true) := fun y hy1 hy2 hy3 => rl_has n _ _ 2 y hy1 (by omega) hy3
      unfold bldOK at hb
      split at hb
      case h_2 => cases hb
      case h_1 v hv' =>
        have hb := beq_iff_eq.mp hb
        have t1 : Tot (fun k => canon_Build.l0 k (n : Int) (n : Int) (rootsL n (isR n x)) 1 2) v := Tot.mono (fun k => (canon_Build.mono_l k).2.1 _ _ _ _ _) hv'
        have t2 := (rb_tot n (x : Int) (rootsL n (isR n x)) h2 hn hL 1000).1 1 v 2 (by omega) (by omega) hb
        have t3 : Tot (fun k => canon_Build.j0 k (n : Int) (x : Int) (n : Int) false) v := (hr.bind (H := fun k t198 => canon_Build.l0 k (n : Int) (n : Int) t198 1 2) t1).succ (fun k => by rw [canon_Build.j0, if_neg (by simp)])
        have t4 : Tot (fun k => sackbutref02_Build.j0 k (n : Int) (x : Int) false) v := t2.succ (fun k => by rw [sackbutref02_Build.j0, if_neg (by simp)]; rfl)
        refine ⟨v, (h1.bind (H := fun k t => if t = true then ((canon_circle_second.f n x).bind fun t197 => (canon_Build.j0 k n x n (!t197))) else (canon_Build.j0 k n x n true)) (t3.eq fun k => ?_)).eq (fun k => ?_),
          (h1'.bind (H := fun k t254 => if t254 = true then ((sackbutref02_Second.f n x).bind fun t255 => (sackbutref02_Build.j0 k n x (!t255))) else (sackbutref02_Build.j0 k n x true)) (t4.eq fun k => ?_)).eq (fun k => ?_)⟩
        · rw [if_pos rfl, hs, Option.bind_some]; rfl
        · unfold canon_Build.f
          rw [hv, Option.bind_some, if_pos rfl]
        · rw [if_pos rfl, hs', Option.bind_some]; rfl
        · unfold sackbutref02_Build.f; rfl

theorem equal_l0 (l : List Int) (hl : l.length ≤ 1000) : ∀ m j, j + m = l.length → Tot (fun k => slices_Equal_int_int.l0 k l l (l.length : Int) (j : Int)) true := by
  intro m
  induction m with
  | zero =>
    intro j hj
    refine ⟨1, fun k hk => ?_⟩
    obtain ⟨k, rfl⟩ : ∃ k', k = k' + 1 := ⟨k - 1, by omega⟩
    show slices_Equal_int_int.l0 (k + 1) _ _ _ _ = _
    rw [slices_Equal_int_int.l0, if_neg (by omega)]
  | succ m ih =>
    intro j hj
    refine (ih (j + 1) (by omega)).succ (fun k => ?_)
    rw [slices_Equal_int_int.l0, if_pos (by omega), if_pos (by omega), if_pos (by omega), if_pos (by omega), if_pos rfl, w64 ((j : Int) + 1) (by omega) (by omega)]
    rfl
theorem equal_self (l : List Int) (hl : l.length ≤ 1000) : Tot (fun k => slices_Equal_int_int.f k l l) true := by
  refine (equal_l0 l hl l.length 0 (by omega)).eq (fun k => ?_)
  unfold slices_Equal_int_int.f
  rw [if_pos rfl]
  rfl

theorem CanonRoots : sackbutlaw02_CanonRoots.Pure := by
  intro n a _ _
  obtain ⟨ka, ha⟩ := awake_some
  rcases rhythm_cases n a with ⟨h1, h2⟩ | ⟨h1, h2, m, x, rfl, rfl, h3, h4, h5⟩
  · refine ⟨ka, ?_⟩
    unfold sackbutlaw02_CanonRoots.f canon_Roots.f canon_First.f canon_Second.f canon_Build.f
    simp only [h1, h2, Option.bind_some, Bool.false_eq_true, if_false, List.length_nil, ha]
    rfl
  · have h6 : x < 16777216 := Nat.lt_of_lt_of_le h5 (Nat.pow_le_pow_right (by decide) h4)
    obtain ⟨b1, hf, hf'⟩ := first_same m (x : Int) ((pop 24 x : Nat) : Int) h3 h4 (count_pop x h6) (size_pop x h6)
    obtain ⟨b2, hs, hs'⟩ := second_same m (x : Int) h3 h4
    obtain ⟨v, hb, hb'⟩ := build_same m x h3 h4 h5 b1 b2 h2 hf hf' hs hs'
    have hr := roots_tot (x : Int) m h4 h3
    have hr' := refroots_tot (x : Int) m h4 h3
    have he := equal_self (rootsL m (isR m x)) (by have := rl_length m (isR m x) (m - 1) 2; unfold rootsL; omega)
    obtain ⟨k1, hf⟩ := hf
    obtain ⟨k2, hf'⟩ := hf'
    obtain ⟨k3, hb⟩ := hb
    obtain ⟨k4, hb'⟩ := hb'
    obtain ⟨k5, hr⟩ := hr
    obtain ⟨k6, hr'⟩ := hr'
    obtain ⟨k7, he⟩ := he
    have ha' : Tot (fun k => sackbutlaw02_awake.f k) true := Tot.mono (fun k => sackbutlaw02_awake.mono k) ha
    obtain ⟨k8, ha'⟩ := ha'
    dsimp only at hf hf' hb hb' hr hr' he ha'
    refine ⟨k1 + k2 + k3 + k4 + k5 + k6 + k7 + k8, ?_⟩
    generalize hk : k1 + k2 + k3 + k4 + k5 + k6 + k7 + k8 = k
    unfold sackbutlaw02_CanonRoots.f canon_Roots.f canon_First.f canon_Second.f
    rw [hb k (by omega), hb' k (by omega)]
    simp only [h1, h2, Option.bind_some, hr k (by omega), hr' k (by omega), hf k (by omega), hf' k (by omega), hs, hs', he k (by omega), ha' k (by omega), if_true, beq_self_eq_true]

end Go.Proofs.Ytknlablmkcabkaa.Pure
