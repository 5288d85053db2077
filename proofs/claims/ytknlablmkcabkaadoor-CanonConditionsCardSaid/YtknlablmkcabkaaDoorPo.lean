/- What the program tells of the conditions: a partner is there exactly if both hold, and Build is one. -/
import Derived.Test.YtknlablmkcabkaaDoorPn
namespace Go.Proofs.YtknlablmkcabkaaDoor.Pa
open Go.RowKit QCanonConditions Til Go.Proofs.YtknlablmkcabkaaDoorW.PrintWords Go.Proofs.YtknlablmkcabkaaDoorW.PrintLast Go.Proofs.YtknlablmkcabkaaDoorW.PrintMore
set_option linter.unusedVariables false
set_option linter.unusedSimpArgs false

theorem mk_lt : ∀ l : List Bool, mk l < 2 ^ l.length := by
  intro l
  induction l with
  | nil => decide
  | cons b l ih =>
    rw [mk, List.length_cons, Nat.pow_succ]
    have : b.toNat ≤ 1 := by cases b <;> decide
    omega
theorem mem_ofM (z : Nat → Bool) (ds : List Nat) (s : Nat) (h : (s : Int) ∈ ofM ds (mk (ds.map z))) : z s = true := by
  rw [ofM_mk] at h
  obtain ⟨y, hy, e⟩ := List.mem_map.mp h
  have : y = s := by omega
  subst this
  exact (List.mem_filter.mp hy).2
theorem bits_pos (n a : Nat) (hn : 0 < n) (ha0 : a.testBit 0 = true) : 0 < (bitsL n a).length :=
  List.length_pos_of_mem (mem_bitsL.mpr ⟨hn, ha0⟩)

theorem build_j0 (n a : Nat) (h2 : 2 ≤ n) (hn : n ≤ 24) (v : Int × Int) (h : canon_Build.l0 1000 (n : Int) (n : Int) (rootsL n (isR n (a : Int))) 1 2 = some v) : Tot (fun k => canon_Build.j0 k (n : Int) (a : Int) (n : Int) false) v := by
  have hr := roots_tot (a : Int) n hn h2
  have t1 : Tot (fun k => canon_Build.l0 k (n : Int) (n : Int) (rootsL n (isR n (a : Int))) 1 2) v := Tot.mono (fun k => (canon_Build.mono_l k).2.1 _ _ _ _ _) h
  exact (hr.bind (H := fun k t198 => canon_Build.l0 k (n : Int) (n : Int) t198 1 2) t1).succ (fun k => by rw [canon_Build.j0, if_neg (by simp)])
theorem build_no (n a : Nat) : Tot (fun k => canon_Build.j0 k (n : Int) (a : Int) (n : Int) true) (0, 4) :=
  (Tot.of (F := fun _ => some ((0 : Int), (4 : Int))) fun _ => rfl).succ (fun k => by rw [canon_Build.j0, if_pos rfl])
theorem build_tot (n a : Nat) (x y : Bool) (v : Int × Int) (hv : canon_circle_valid.f (n : Int) [(a : Int)] = some true) (hx : Tot (fun k => canon_circle_first.f k (n : Int) (a : Int)) x) (hy : canon_circle_second.f (n : Int) (a : Int) = some y)
    (h : (x && y) = true → Tot (fun k => canon_Build.j0 k (n : Int) (a : Int) (n : Int) false) v) (h' : (x && y) = false → v = (0, 4)) : Tot (fun k => canon_Build.f k (n : Int) (a : Int)) v := by
  refine (hx.bind (H := fun k t => if t = true then ((canon_circle_second.f n a).bind fun t197 => (canon_Build.j0 k n a n (!t197))) else (canon_Build.j0 k n a n true)) ?_).eq (fun k => ?_)
  · cases x with
    | false => rw [h' rfl]; exact (build_no n a).eq (fun k => if_neg (by simp))
    | true =>
      cases y with
      | false => rw [h' rfl]; exact (build_no n a).eq (fun k => by rw [if_pos rfl, hy, Option.bind_some]; rfl)
      | true => exact (h rfl).eq (fun k => by rw [if_pos rfl, hy, Option.bind_some]; rfl)
  · unfold canon_Build.f
    rw [hv, Option.bind_some, if_pos rfl]

theorem cond_facts (n a : Nat) (h2 : 2 ≤ n) (hn : n ≤ 24) (ha : a < 2 ^ n) (ha0 : a.testBit 0 = true) (hv : canon_circle_valid.f (n : Int) [(a : Int)] = some true) :
    (parts n a = [] ∧ ∃ x y, (x && y) = false ∧ Tot (fun k => canon_circle_first.f k (n : Int) (a : Int)) x ∧ canon_circle_second.f (n : Int) (a : Int) = some y ∧ Tot (fun k => canon_Build.f k (n : Int) (a : Int)) (0, 4)) ∨
    (parts n a ≠ [] ∧ Tot (fun k => canon_circle_first.f k (n : Int) (a : Int)) true ∧ canon_circle_second.f (n : Int) (a : Int) = some true ∧ ∃ c : Nat, Tot (fun k => canon_Build.f k (n : Int) (a : Int)) ((c : Int), 0) ∧ c ∈ parts n a) := by
  have hm : n ∈ (List.range 25).drop 2 := by
    rw [List.mem_iff_getElem]
    exact ⟨n - 2, by simp; omega, by simp; omega⟩
  have hlt : mkR n a < 2 ^ (divs n).length := by
    have := mk_lt ((divs n).map (fun s => isR n (a : Int) s))
    rwa [List.length_map] at this
  have hk := List.all_eq_true.mp (List.all_eq_true.mp mask_all n hm) (mkR n a) (List.mem_range.mpr hlt)
  have hL : rootsL n (isR n (a : Int)) = ofM (divs n) (mkR n a) := roots_ofM n _ h2
  have hf := first_tot n a h2 hn ha
  have hs := second_val n a h2 hn
  have hbp := bits_pos n a (by omega) ha0
  have none_of : condB n (mkR n a) ≠ (bitsL n a).length → parts n a = [] := by
    intro hne
    rcases hp : parts n a with _ | ⟨b, l⟩
    · rfl
    · exfalso
      have hb := (parts_mem h2 ha ha0 b).mp (by rw [hp]; simp)
      exact hne (tile_cond n a b h2 hn ha hb.1 ha0 hb.2.1 hb.2.2)
  unfold maskOK at hk
  rw [← hL] at hk
  dsimp only at hk
  rw [hs]
  split at hk
  case h_1 hS =>
    rw [Bool.and_eq_true, Bool.and_eq_true, decide_eq_true_eq, decide_eq_true_eq] at hk
    obtain ⟨⟨hk1, hk2⟩, hk3⟩ := hk
    split at hk3
    case h_2 => cases hk3
    case h_1 c e hB =>
      simp only [Bool.and_eq_true, decide_eq_true_eq, List.all_eq_true] at hk3
      obtain ⟨⟨⟨⟨⟨g1, g2⟩, g3⟩, g4⟩, g5⟩, g6⟩ := hk3
      subst g1
      rw [hk2] at hf
      by_cases heq : condB n (mkR n a) = (bitsL n a).length
      · right
        have hx : (((condB n (mkR n a) : Nat) : Int) == (((bitsL n a).length : Nat) : Int)) = true := by rw [heq]; simp
        rw [hx] at hf
        have hsec : canon_circle_second.f (n : Int) (a : Int) = some true := by rw [hs]; exact hS
        have hc : (c.toNat : Int) = c := by omega
        have hT : Tile n a c.toNat := by
          refine four_tile n a c.toNat h2 hn ha g3 (by rw [← heq]; exact g5) (fun s hsd => ?_)
          rcases Bool.or_eq_true _ _ |>.mp (g6 s hsd) with h | h
          · left
            have := of_decide_eq_true h
            rw [hL] at this
            exact mem_ofM _ _ s this
          · right; rw [hc]; exact h
        have hmem := (parts_mem h2 ha ha0 c.toNat).mpr ⟨g3, g4, hT⟩
        refine ⟨List.ne_nil_of_mem hmem, hf, hS, c.toNat, ?_, hmem⟩
        rw [hc]
        exact build_tot n a true true (c, 0) hv hf hsec (fun _ => build_j0 n a h2 hn _ hB) (fun h => by cases h)
      · left
        have hx : (((condB n (mkR n a) : Nat) : Int) == (((bitsL n a).length : Nat) : Int)) = false := by rw [beq_eq_false_iff_ne]; omega
        rw [hx] at hf
        have hsec : canon_circle_second.f (n : Int) (a : Int) = some true := by rw [hs]; exact hS
        exact ⟨none_of heq, false, true, rfl, hf, hS, build_tot n a false true (0, 4) hv hf hsec (fun h => by cases h) (fun _ => rfl)⟩
  case h_2 hS =>
    left
    have hk := of_decide_eq_true hk
    have hsec : canon_circle_second.f (n : Int) (a : Int) = some false := by rw [hs]; exact hS
    exact ⟨none_of (by omega), _, false, Bool.and_false _, hf, hS, build_tot n a _ false (0, 4) hv hf hsec (fun h => by simp at h) (fun _ => rfl)⟩
  case h_3 => cases hk
end Go.Proofs.YtknlablmkcabkaaDoor.Pa
