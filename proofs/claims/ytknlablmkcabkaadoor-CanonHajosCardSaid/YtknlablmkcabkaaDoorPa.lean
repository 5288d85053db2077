/- Rounds: what a function returns when it has enough of them; the division of polynomials, of the program and of the reference, step alike. -/
import Derived.Test.YtknlablmkcabkaaDoorQCanonConditionsx4
namespace Go.Proofs.YtknlablmkcabkaaDoor.Pa
open Go.RowKit QCanonConditions Go.Proofs.YtknlablmkcabkaaDoorW.PrintWords Go.Proofs.YtknlablmkcabkaaDoorW.PrintLast Go.Proofs.YtknlablmkcabkaaDoorW.PrintMore
set_option linter.unusedVariables false
set_option linter.unusedSimpArgs false

/-- With enough rounds F returns v. -/
def Tot {α : Type} (F : Nat → Option α) (v : α) : Prop := ∃ K, ∀ k, K ≤ k → F k = some v
namespace Tot
variable {α β : Type} {F G : Nat → Option α} {v : α}
theorem of (h : ∀ k, F k = some v) : Tot F v := ⟨0, fun k _ => h k⟩
theorem mono (hm : ∀ k, LeO (F k) (F (k + 1))) {k0 : Nat} (h : F k0 = some v) : Tot F v := by
  refine ⟨k0, fun k hk => ?_⟩
  obtain ⟨j, rfl⟩ : ∃ j, k = k0 + j := ⟨k - k0, by omega⟩
  clear hk
  induction j with
  | zero => exact h
  | succ j ih => exact hm _ _ ih
theorem bind {H : Nat → α → Option β} {u : β} (h : Tot F v) (k : Tot (fun n => H n v) u) : Tot (fun n => (F n).bind (H n)) u := by
  obtain ⟨K1, h1⟩ := h
  obtain ⟨K2, h2⟩ := k
  exact ⟨max K1 K2, fun n hn => by
    show (F n).bind (H n) = some u
    rw [h1 n (by omega)]
    exact h2 n (by omega)⟩
theorem succ (h : Tot F v) (e : ∀ k, G (k + 1) = F k) : Tot G v := by
  obtain ⟨K, h⟩ := h
  refine ⟨K + 1, fun k hk => ?_⟩
  obtain ⟨j, rfl⟩ : ∃ j, k = j + 1 := ⟨k - 1, by omega⟩
  rw [e]
  exact h j (by omega)
theorem eq (h : Tot F v) (e : ∀ k, G k = F k) : Tot G v := by
  obtain ⟨K, h⟩ := h
  exact ⟨K, fun k hk => (e k).trans (h k hk)⟩
theorem lim (h : Tot F v) (hm : ∀ k, LeO (F k) (F (k + 1))) : lim F = some v := by
  obtain ⟨K, h⟩ := h
  exact lim_of hm (h K (Nat.le_refl _))
theorem exists_ (h : Tot F v) : ∃ k, F k = some v := by
  obtain ⟨K, h⟩ := h
  exact ⟨K, h K (Nat.le_refl _)⟩
end Tot

/-- One row of the division: from place j on, m coefficients. -/
def inn (g : List Int) (off : Nat) (c : Int) : Nat → Nat → List Int → List Int
  | 0, _, f => f
  | m + 1, j, f => inn g off c m (j + 1) (f.set (off + j) (wrap64 (rd f ((off + j : Nat) : Int) - wrap64 (c * rd g (j : Int)))))
theorem inn_length (g : List Int) (off : Nat) (c : Int) : ∀ m j f, (inn g off c m j f).length = f.length := by
  intro m
  induction m with
  | zero => intro j f; rfl
  | succ m ih => intro j f; simp [inn, ih]
/-- The division: m rows. -/
def outr (g : List Int) (d : Nat) : Nat → List Int → List Int
  | 0, f => f
  | m + 1, f => outr g d m (inn g m (rd f ((d + m : Nat) : Int)) (d + 1) 0 f)
theorem outr_length (g : List Int) (d : Nat) : ∀ m f, (outr g d m f).length = f.length := by
  intro m
  induction m with
  | zero => intro f; rfl
  | succ m ih => intro f; rw [outr, ih, inn_length]

theorem w64 (x : Int) (h1 : -9223372036854775808 ≤ x) (h2 : x < 9223372036854775808) : wrap64 x = x := by unfold wrap64; omega

theorem over_l1 {v : List Int × List Int} (g x4 : List Int) (d i F : Nat) (hd : g.length = d + 1) (hi : d ≤ i) (hF : i < F) (hFb : F ≤ 1000) (c : Int) :
    ∀ m j f, j + m = d + 1 → f.length = F → Tot (fun k => canon_polynomial_over.l0 k g x4 (inn g (i - d) c m j f) (d : Int) ((i : Int) - 1)) v →
      Tot (fun k => canon_polynomial_over.l1 k g x4 f (d : Int) (i : Int) c g (g.length : Int) (j : Int)) v := by
  intro m
  induction m with
  | zero =>
    intro j f hj hf h
    refine h.succ (fun k => ?_)
    simp only [canon_polynomial_over.l1]
    rw [if_neg (by omega), w64 ((i : Int) - 1) (by omega) (by omega)]
    rfl
  | succ m ih =>
    intro j f hj hf h
    refine (ih (j + 1) _ (by omega) (by simpa using hf) h).succ (fun k => ?_)
    have e1 : wrap64 (wrap64 ((i : Int) - d) + j) = ((i - d + j : Nat) : Int) := by rw [w64 ((i : Int) - d) (by omega) (by omega), w64 _ (by omega) (by omega)]; omega
    simp only [canon_polynomial_over.l1]
    rw [if_pos (by omega), if_pos (by omega), if_pos (by omega), e1, if_pos (by omega), if_pos (by omega), w64 ((j : Int) + 1) (by omega) (by omega)]
    rfl

theorem reverse_tot (q : List Int) (hq : q.length ≤ 1000) : ∃ q', Tot (fun k => canon_polynomial_int_83.f k q) q' := by
  have main : ∀ (m : Nat) (l : List Int) (i j : Int), l.length = q.length → (j + 1 - i).toNat ≤ m → 0 ≤ i → i ≤ 1000 → j < (q.length : Int) → -1 ≤ j → ∃ q', Tot (fun k => canon_polynomial_int_83.l0 k l i j) q' := by
    intro m
    induction m with
    | zero =>
      intro l i j hl hm h0 h1 h2 h3
      exact ⟨l, 1, fun k hk => by
        obtain ⟨k, rfl⟩ : ∃ k', k = k' + 1 := ⟨k - 1, by omega⟩
        simp only [canon_polynomial_int_83.l0]
        rw [if_neg (by omega)]⟩
    | succ m ih =>
      intro l i j hl hm h0 h1 h2 h3
      by_cases hij : i < j
      · obtain ⟨q', hq'⟩ := ih ((l.set i.toNat (rd l j)).set j.toNat (rd l i)) (i + 1) (j - 1) (by simpa using hl) (by omega) (by omega) (by omega) (by omega) (by omega)
        refine ⟨q', hq'.succ (fun k => ?_)⟩
        simp only [canon_polynomial_int_83.l0]
        rw [if_pos hij, if_pos (by omega), if_pos (by omega), if_pos h0, if_pos (by omega), w64 (i + 1) (by omega) (by omega), w64 (j - 1) (by omega) (by omega)]
      · exact ⟨l, 1, fun k hk => by
          obtain ⟨k, rfl⟩ : ∃ k', k = k' + 1 := ⟨k - 1, by omega⟩
          simp only [canon_polynomial_int_83.l0]
          rw [if_neg hij]⟩
  obtain ⟨q', h⟩ := main 2000 q 0 ((q.length : Int) - 1) rfl (by omega) (by omega) (by omega) (by omega) (by omega)
  refine ⟨q', h.eq (fun k => ?_)⟩
  unfold canon_polynomial_int_83.f
  rw [w64 ((q.length : Int) - 1) (by omega) (by omega)]

theorem over_l0 (g : List Int) (d : Nat) (hd : g.length = d + 1) (F : Nat) (hFb : F ≤ 1000) (hdF : d ≤ F) : ∀ m x4 f, d + m ≤ F → f.length = F → x4.length + m ≤ 1000 →
    ∃ q, Tot (fun k => canon_polynomial_over.l0 k g x4 f (d : Int) ((d : Int) + m - 1)) (q, (outr g d m f).take d) := by
  intro m
  induction m with
  | zero =>
    intro x4 f hm hf hx
    obtain ⟨q, hq⟩ := reverse_tot x4 (by omega)
    refine ⟨q, (hq.bind (H := fun _ t => some (t, f.take d)) (Tot.of fun _ => rfl)).succ (fun k => ?_)⟩
    have e : mn (d : Int) (f.length : Int) = (d : Int) := by unfold mn; split <;> omega
    simp only [canon_polynomial_over.l0]
    rw [if_neg (by omega), e]
    simp only [if_pos (show (0 : Int) ≤ d from by omega), if_pos (show (d : Int) ≤ (f.length : Int) from by omega), Int.toNat_natCast, outr]
  | succ m ih =>
    intro x4 f hm hf hx
    obtain ⟨q, hq⟩ := ih (x4 ++ [rd f ((d + m : Nat) : Int)]) (inn g m (rd f ((d + m : Nat) : Int)) (d + 1) 0 f) (by omega) (by rw [inn_length]; exact hf) (by simp; omega)
    have h1 := over_l1 g (x4 ++ [rd f ((d + m : Nat) : Int)]) d (d + m) F hd (by omega) (by omega) hFb (rd f ((d + m : Nat) : Int)) (d + 1) 0 f (by omega) hf (v := (q, (outr g d m (inn g m (rd f ((d + m : Nat) : Int)) (d + 1) 0 f)).take d))
      (by rw [show d + m - d = m from by omega, show (((d + m : Nat) : Int) - 1) = (d : Int) + m - 1 from by omega]; exact hq)
    refine ⟨q, h1.succ (fun k => ?_)⟩
    rw [show ((d : Int) + ((m + 1 : Nat) : Int) - 1) = ((d + m : Nat) : Int) from by omega]
    simp only [canon_polynomial_over.l0]
    rw [if_pos (by omega), if_pos (by omega), if_pos (by omega), if_pos (by omega)]
    rfl

end Go.Proofs.YtknlablmkcabkaaDoor.Pa
