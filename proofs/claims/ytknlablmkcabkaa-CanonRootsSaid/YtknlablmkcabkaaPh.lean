/- Build: at every list of divisors that can be the roots, the program and the reference make the same partner. -/
import Derived.Test.YtknlablmkcabkaaPf
import Derived.Test.YtknlablmkcabkaaPg
import Derived.Test.YtknlablmkcabkaaQCanonRootsx8
namespace Go.Proofs.Ytknlablmkcabkaa.Pa
open Go.RowKit QCanonRoots sec Go.Proofs.YtknlablmkcabkaaW.PrintWords Go.Proofs.YtknlablmkcabkaaW.PrintLast Go.Proofs.YtknlablmkcabkaaW.PrintMore
set_option linter.unusedVariables false
set_option linter.unusedSimpArgs false

mutual
noncomputable def rb.l0 : Nat → Int → List Int → Int → Int → Option (Int × Int)
  | 0, _, _, _, _ => none
  | k + 1, x0, L, x6, x7 => if x7 ≤ x0 then (if x7 = 0 then none else (if (Int.tmod x0 x7) = 0 then ((sackbutref02_base.f 100 x7).bind fun t256 => (rb.j2 k x0 L x6 x7 t256)) else (rb.j3 k x0 L x6 x7 0 true))) else (some (x6, 0))
noncomputable def rb.j2 : Nat → Int → List Int → Int → Int → Int → Option (Int × Int)
  | 0, _, _, _, _, _ => none
  | k + 1, x0, L, x6, x7, x8 => if x8 = 0 then (rb.j3 k x0 L x6 x7 x8 true) else rb.j3 k x0 L x6 x7 x8 (decide (x7 ∈ L))
noncomputable def rb.j3 : Nat → Int → List Int → Int → Int → Int → Bool → Option (Int × Int)
  | 0, _, _, _, _, _, _ => none
  | k + 1, x0, L, x6, x7, x8, x41 => if x41 = true then (rb.l0 k x0 L x6 (wrap64 (x7 + 1))) else (rb.l1 k x0 L x6 x7 x8 x0)
noncomputable def rb.l1 : Nat → Int → List Int → Int → Int → Int → Int → Option (Int × Int)
  | 0, _, _, _, _, _, _ => none
  | k + 1, x0, L, x6, x7, x8, x9 => if x8 = 0 then none else (if (Int.tmod x9 x8) = 0 then (rb.l1 k x0 L x6 x7 x8 (wrap64 (Int.tdiv x9 x8))) else (if x0 = 0 then none else (rb.l2 k x0 L x6 x7 (Int.tmod (wrap64 ((wrap64 (Int.tdiv x7 x8)) * x9)) x0) 0 x8 0)))
noncomputable def rb.l2 : Nat → Int → List Int → Int → Int → Int → Int → Int → Int → Option (Int × Int)
  | 0, _, _, _, _, _, _, _, _ => none
  | k + 1, x0, L, x6, x7, x10, x11, x57, x58 => if x58 < x57 then (if x0 = 0 then none else ((sackbutref02_moved.f x0 x6 (Int.tmod (wrap64 (x58 * x10)) x0)).bind fun t258 => (rb.l2 k x0 L x6 x7 x10 (Go.bits .or .i64 x11 t258) x57 (wrap64 (x58 + 1))))) else (rb.l0 k x0 L x11 (wrap64 (x7 + 1)))
end

theorem rb_tot (n : Nat) (a : Int) (L : List Int) (h2n : 2 ≤ n) (hn : n ≤ 24) (hL : ∀ x : Nat, 2 ≤ x → x ≤ n → n % x = 0 → ((x : Int) ∈ L ↔ isR n a x = true)) : ∀ k,
    (∀ x6 v, ∀ x : Nat, 2 ≤ x → x ≤ n + 1 → rb.l0 k (n : Int) L x6 (x : Int) = some v → Tot (fun q => sackbutref02_Build.l0 q (n : Int) a x6 (x : Int)) v) ∧
    (∀ x6 x8 v, ∀ x : Nat, 2 ≤ x → x ≤ n → n % x = 0 → rb.j2 k (n : Int) L x6 (x : Int) x8 = some v → Tot (fun q => sackbutref02_Build.j2 q (n : Int) a x6 (x : Int) x8) v) ∧
    (∀ x6 x8 b v, ∀ x : Nat, 2 ≤ x → x ≤ n → rb.j3 k (n : Int) L x6 (x : Int) x8 b = some v → Tot (fun q => sackbutref02_Build.j3 q (n : Int) a x6 (x : Int) x8 b) v) ∧
    (∀ x6 x8 x9 v, ∀ x : Nat, 2 ≤ x → x ≤ n → rb.l1 k (n : Int) L x6 (x : Int) x8 x9 = some v → Tot (fun q => sackbutref02_Build.l1 q (n : Int) a x6 (x : Int) x8 x9) v) ∧
    (∀ x6 x10 x11 x57 x58 v, ∀ x : Nat, 2 ≤ x → x ≤ n → rb.l2 k (n : Int) L x6 (x : Int) x10 x11 x57 x58 = some v → Tot (fun q => sackbutref02_Build.l2 q (n : Int) a x6 (x : Int) x10 x11 x57 x58) v) := by
  intro k
  induction k with
  | zero => exact ⟨fun _ _ _ _ _ h => by simp [rb.l0] at h, fun _ _ _ _ _ _ _ h => by simp [rb.j2] at h, fun _ _ _ _ _ _ _ h => by simp [rb.j3] at h, fun _ _ _ _ _ _ _ h => by simp [rb.l1] at h, fun _ _ _ _ _ _ _ _ _ h => by simp [rb.l2] at h⟩
  | succ k ih =>
    obtain ⟨i0, i2, i3, j1, j2⟩ := ih
    have hw : ∀ x : Nat, x ≤ n → wrap64 ((x : Int) + 1) = ((x + 1 : Nat) : Int) := fun x hx => by rw [w64 _ (by omega) (by omega)]; rfl
    refine ⟨?_, ?_, ?_, ?_, ?_⟩
    · intro x6 v x h1 h3 h
      rw [rb.l0] at h
      by_cases hx : (x : Int) ≤ (n : Int)
      · rw [if_pos hx, if_neg (by omega)] at h
        by_cases hd : Int.tmod (n : Int) (x : Int) = 0
        · rw [if_pos hd] at h
          obtain ⟨p, hp, _, ht⟩ := prime_at x h1 (by omega)
          have hb := prime_base
          have hm : x ∈ (List.range 25).drop 2 := by
            rw [List.mem_iff_getElem]
            exact ⟨x - 2, by simp; omega, by simp; omega⟩
          have hb := List.all_eq_true.mp prime_base x hm
          obtain ⟨t, ht0, h⟩ := Option.bind_eq_some_iff.mp h
          have ht' : Tot (fun k => sackbutref02_base.f k (x : Int)) t := Tot.mono (fun k => sackbutref02_base.mono _ k) ht0
          refine (ht'.bind (H := fun q t => sackbutref02_Build.j2 q (n : Int) a x6 (x : Int) t) (i2 _ _ _ x h1 (by omega) (by rw [tmod_nat] at hd; omega) h)).succ (fun q => ?_)
          rw [sackbutref02_Build.l0, if_pos hx, if_neg (by omega), if_pos hd]
        · rw [if_neg hd] at h
          have := i3 _ _ _ _ x h1 (by omega) h
          have h5 : Tot (fun q => sackbutref02_Build.j2 q (n : Int) a x6 (x : Int) 0) v := this.succ (fun q => by rw [sackbutref02_Build.j2, if_pos rfl])
          exact h5.succ (fun q => by rw [sackbutref02_Build.l0, if_pos hx, if_neg (by omega), if_neg hd])
      · rw [if_neg hx] at h
        cases h
        refine ⟨1, fun q hq => ?_⟩
        obtain ⟨q, rfl⟩ : ∃ k', q = k' + 1 := ⟨q - 1, by omega⟩
        show sackbutref02_Build.l0 (q + 1) (n : Int) a x6 (x : Int) = _
        rw [sackbutref02_Build.l0, if_neg hx]
    · intro x6 x8 v x h1 h3 hd h
      rw [rb.j2] at h
      by_cases h8 : x8 = 0
      · rw [if_pos h8] at h
        exact (i3 _ _ _ _ x h1 h3 h).succ (fun q => by rw [sackbutref02_Build.j2, if_pos h8])
      · rw [if_neg h8] at h
        have hr := isroot_tot a n x (by omega) h1 (by omega) h3
        have e : decide ((x : Int) ∈ L) = isR n a x := by
          have := hL x h1 h3 hd
          by_cases hi : isR n a x = true
          · rw [hi, decide_eq_true (this.mpr hi)]
          · rw [decide_eq_false (fun hh => hi (this.mp hh))]; simpa using hi
        rw [e] at h
        exact (hr.bind (H := fun q t => sackbutref02_Build.j3 q (n : Int) a x6 (x : Int) x8 t) (i3 _ _ _ _ x h1 h3 h)).succ (fun q => by rw [sackbutref02_Build.j2, if_neg h8])
    · intro x6 x8 b v x h1 h3 h
      rw [rb.j3] at h
      cases b with
      | true =>
        rw [if_pos rfl, hw x h3] at h
        exact (i0 _ _ (x + 1) (by omega) (by omega) h).succ (fun q => by rw [sackbutref02_Build.j3, if_pos rfl, hw x h3])
      | false =>
        rw [if_neg (by simp)] at h
        exact (j1 _ _ _ _ x h1 h3 h).succ (fun q => by rw [sackbutref02_Build.j3, if_neg (by simp)])
    · intro x6 x8 x9 v x h1 h3 h
      rw [rb.l1] at h
      by_cases h8 : x8 = 0
      · rw [if_pos h8] at h; cases h
      · rw [if_neg h8] at h
        by_cases h9 : Int.tmod x9 x8 = 0
        · rw [if_pos h9] at h
          exact (j1 _ _ _ _ x h1 h3 h).succ (fun q => by rw [sackbutref02_Build.l1, if_neg h8, if_pos h9])
        · rw [if_neg h9, if_neg (by omega)] at h
          exact (j2 _ _ _ _ _ _ x h1 h3 h).succ (fun q => by rw [sackbutref02_Build.l1, if_neg h8, if_neg h9, if_neg (by omega)])
    · intro x6 x10 x11 x57 x58 v x h1 h3 h
      rw [rb.l2] at h
      by_cases h8 : x58 < x57
      · rw [if_pos h8, if_neg (by omega)] at h
        obtain ⟨t, ht, h⟩ := Option.bind_eq_some_iff.mp h
        exact (j2 _ _ _ _ _ _ x h1 h3 h).succ (fun q => by rw [sackbutref02_Build.l2, if_pos h8, if_neg (by omega), ht]; rfl)
      · rw [if_neg h8, hw x h3] at h
        exact (i0 _ _ (x + 1) (by omega) (by omega) h).succ (fun q => by rw [sackbutref02_Build.l2, if_neg h8, hw x h3])

/-- The two make the same at n and L. -/
noncomputable def bldOK (n : Nat) (L : List Int) : Bool := match canon_Build.l0 1000 (n : Int) (n : Int) L 1 2 with
  | some v => rb.l0 1000 (n : Int) L 1 2 == some v
  | none => false
theorem bld_all : ((List.range 25).drop 2).all (fun n => (rlAll n (n - 1) 2).all (bldOK n)) = true := by decide +kernel

end Go.Proofs.Ytknlablmkcabkaa.Pa
