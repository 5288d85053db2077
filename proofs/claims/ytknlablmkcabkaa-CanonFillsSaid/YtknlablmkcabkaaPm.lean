/- Two rhythms fill the circle exactly if they have as many beats as the circle and no difference in common. -/
import Derived.Test.YtknlablmkcabkaaTil
namespace Go.Proofs.Ytknlablmkcabkaa.Til
set_option linter.unusedVariables false
set_option linter.unusedSimpArgs false

theorem mod2 {u n : Nat} (h : u < 2 * n) : u % n = if u < n then u else u - n := by
  split
  · rename_i h1; exact Nat.mod_eq_of_lt h1
  · rename_i h1
    rw [Nat.mod_eq_sub_mod (by omega), Nat.mod_eq_of_lt (by omega)]
/-- d is a difference of two beats. -/
def Dif (n a d : Nat) : Prop := ∃ x ∈ bitsL n a, ∃ y ∈ bitsL n a, (x + n - y) % n = d
theorem uniq_iff {n a b : Nat} (hn : 0 < n) : Uniq n a b ↔ ∀ d, 1 ≤ d → d < n → ¬ (Dif n a d ∧ Dif n b d) := by
  constructor
  · rintro h d h1 h2 ⟨⟨x, hx, x', hx', e⟩, ⟨y, hy, y', hy', e'⟩⟩
    have l1 := (mem_bitsL.mp hx).1
    have l2 := (mem_bitsL.mp hx').1
    have l3 := (mem_bitsL.mp hy).1
    have l4 := (mem_bitsL.mp hy').1
    rw [mod2 (by omega)] at e e'
    have := (h x hx y' hy' x' hx' y hy (by
      rw [mod2 (by omega), mod2 (by omega)]
      repeat' split at *
      all_goals omega)).1
    split at e <;> omega
  · intro h x hx y hy x' hx' y' hy' e
    have l1 := (mem_bitsL.mp hx).1
    have l2 := (mem_bitsL.mp hx').1
    have l3 := (mem_bitsL.mp hy).1
    have l4 := (mem_bitsL.mp hy').1
    by_cases hxx : x = x'
    · subst hxx
      exact ⟨rfl, mod_inj l3 l4 e⟩
    · exfalso
      have hd : (x + n - x') % n = (y' + n - y) % n := by
        rw [mod2 (by omega), mod2 (by omega)] at e
        rw [mod2 (by omega), mod2 (by omega)]
        repeat' split at *
        all_goals omega
      have h0 : 1 ≤ (x + n - x') % n := by
        rw [mod2 (by omega)]
        split <;> omega
      exact h _ h0 (Nat.mod_lt _ hn) ⟨⟨x, hx, x', hx', rfl⟩, ⟨y', hy', y, hy, hd.symm⟩⟩
theorem tile_iff {n a b : Nat} (hn : 0 < n) : Tile n a b ↔ (∀ d, 1 ≤ d → d < n → ¬ (Dif n a d ∧ Dif n b d)) ∧ (bitsL n a).length * (bitsL n b).length = n :=
  ⟨fun h => ⟨(uniq_iff hn).mp h.uniq, h.2⟩, fun h => tile_of_uniq hn ((uniq_iff hn).mpr h.1) h.2⟩
end Go.Proofs.Ytknlablmkcabkaa.Til
