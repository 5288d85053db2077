/- A number is appended to a row of whole numbers: in place or in a new block; what else is read stays. -/
import Derived.Test.YtknlablmkcabkaaDoorHnd
import Derived.Test.YtknlablmkcabkaaDoorProg
import Derived.Tactics
import Derived.WalkKit
import Derived.ArgAppend
import Derived.KernelRfl
namespace Go.Proofs.YtknlablmkcabkaaDoor
open Go.RowKit Go.Proofs.YtknlablmkcabkaaDoorW.PrintWords Go.Proofs.YtknlablmkcabkaaDoorW.PrintLast Go.Proofs.YtknlablmkcabkaaDoorW.PrintMore Go.Proofs.YtknlablmkcabkaaDoorHnd
set_option linter.unusedVariables false
set_option linter.unusedSimpArgs false

/-- What F returns when it has rounds enough. -/
noncomputable def lim {α : Type} (F : Nat → Option α) : Option α := open Classical in if h : ∃ v, ∃ k, F k = some v then some (Classical.choose h) else none
theorem lim_some {α : Type} {F : Nat → Option α} {v : α} (h : lim F = some v) : ∃ k, F k = some v := by
  unfold lim at h
  split at h
  · rename_i hv
    have := Classical.choose_spec hv
    cases h
    exact this
  · cases h
theorem lim_of {α : Type} {F : Nat → Option α} {v : α} {k : Nat} (hm : ∀ k, LeO (F k) (F (k + 1))) (h : F k = some v) : lim F = some v := by
  have up : ∀ (i j : Nat) (u : α), F i = some u → F (i + j) = some u := by
    intro i j u hu
    induction j with
    | zero => exact hu
    | succ j ih => exact hm _ _ ih
  unfold lim
  have hv : ∃ v, ∃ k, F k = some v := ⟨v, k, h⟩
  rw [dif_pos hv]
  obtain ⟨k', hk'⟩ := Classical.choose_spec hv
  have h1 := up k k' v h
  have h2 := up k' k _ hk'
  rw [Nat.add_comm, h1] at h2
  exact h2.symm

/-- Block g begins with the numbers l. -/
def Pre (W : World) (g : Nat) (l : List Int) : Prop := ∃ cur : Array Value, W.heap[g]? = some (.cells cur 3 (0, 0)) ∧ l.length ≤ cur.size ∧ cur.toList.take l.length = l.map (Value.int .i64)
/-- .. and has room for cp numbers. -/
def Row (W : World) (g cp : Nat) (l : List Int) : Prop := ∃ cur : Array Value, W.heap[g]? = some (.cells cur 3 (0, 0)) ∧ l.length ≤ cp ∧ cp = cur.size ∧ cp ≤ maxLen ∧ cur.toList.take l.length = l.map (Value.int .i64)
theorem Row.pre {W : World} {g cp : Nat} {l : List Int} (h : Row W g cp l) : Pre W g l := by
  obtain ⟨cur, h1, h2, h3, h4, h5⟩ := h
  exact ⟨cur, h1, by omega, h5⟩
theorem Pre.lt {W : World} {g : Nat} {l : List Int} (h : Pre W g l) : g < W.heap.size := by
  obtain ⟨cur, h1, _⟩ := h
  exact blk_lt h1
theorem Pre.cell {W : World} {g : Nat} {l : List Int} (h : Pre W g l) (i : Nat) (hi : i < l.length) : W.cell? ⟨g, i, none⟩ = some (.int .i64 (l.getD i 0)) := by
  obtain ⟨cur, h1, h2, h3⟩ := h
  rw [blk_cell h1]
  have h4 : (cur.toList.take l.length)[i]? = (l.map (Value.int .i64))[i]? := by rw [h3]
  rw [List.getElem?_take, if_pos hi] at h4
  simpa [List.getElem?_eq_getElem hi, List.getD] using h4
theorem Pre.kept {W W1 : World} {g : Nat} {l : List Int} (h : Pre W g l) (hk : W1.heap[g]? = W.heap[g]?) : Pre W1 g l := by
  obtain ⟨cur, h1, h2, h3⟩ := h
  exact ⟨cur, hk.trans h1, h2, h3⟩
theorem Row.kept {W W1 : World} {g cp : Nat} {l : List Int} (h : Row W g cp l) (hk : W1.heap[g]? = W.heap[g]?) : Row W1 g cp l := by
  obtain ⟨cur, h1, h2⟩ := h
  exact ⟨cur, hk.trans h1, h2⟩
theorem Row.max {W : World} {g cp : Nat} {l : List Int} (h : Row W g cp l) : l.length ≤ cp := by
  obtain ⟨cur, h1, h2, _⟩ := h
  exact h2

section
variable {P : Program} {ops : Array Oper} {rest : List Oper} {o : Oper} {a : Act} {Q : Exit → Act → World → Prop}
theorem app_int {W : World} (hgd : o.guard = none) (s x : Operand) (t : TypeId) (bytes : Nat)
    (ho : o.op = .call { callee := .builtin .append, args := #[s, x], argTypes := #[t, t] })
    (ht : P.underlying t = some (.slice 3)) (hinfo : (P.info? 3).map (fun i => (i.zero, i.size, i.bytes)) = some (some (.int .i64 0), 1, 8))
    (g cp : Nat) (ps : List Int) (y : Int) (hs : a.eval s = .slice (some ⟨g, 0, none⟩) ps.length cp) (hx : a.eval x = .slice (some ⟨W.heap.size, 0, none⟩) 1 1) (HR : Row W g cp ps) (hl : ps.length ≤ 1000000)
    (h : ∀ v1 W1 g1 cp1, v1 = .slice (some ⟨g1, 0, none⟩) (ps.length + 1) cp1 → Row W1 g1 cp1 (ps ++ [y]) → (∀ gb lb, (gb = g → lb.length ≤ ps.length) → Pre W gb lb → Pre W1 gb lb) → W.grownBy W1 (some g) → (g1 = g ∨ W.heap.size ≤ g1) → wpList P ops Q rest (a.put o.dst v1) W1) :
    wpList P ops Q (o :: rest) a (W.alloc (.cells #[.int .i64 y] 3)) := by
  obtain ⟨i0, hi, hzz⟩ := Option.map_eq_some_iff.1 hinfo
  simp only [Prod.mk.injEq] at hzz
  obtain ⟨hz0, hz1, hz2⟩ := hzz
  obtain ⟨cur, h1, h2, h3, h4, h5⟩ := HR
  have hg : g < W.heap.size := blk_lt h1
  have h1' : (W.alloc (.cells #[.int .i64 y] 3)).heap[g]? = some (.cells cur 3 (0, 0)) := blk_alloc h1 _
  have hga : W.grownBy (W.alloc (.cells #[.int .i64 y] 3)) (some g) := World.grownBy_alloc _ _ _
  refine wpList_append_arg _ hgd s x t ho 3 i0 (.int .i64 0) 1 8 ht hi hz0 hz1 hz2 rfl (by decide) g 0 ps.length cp (ps.map (Value.int .i64)) hs (by simp) ?_ ⟨W.heap.size, 0, none⟩ 1 1 [.int .i64 y] hx rfl (cell_one_new W _ _) (by simp [Value.oneCell']) ?_ (by simp only [maxLen]; omega) (by omega) ?_ ?_
  · intro j u hj
    have hj' : j < ps.length := by have := (List.getElem?_eq_some_iff.mp hj).1; simpa using this
    rw [Nat.zero_add, blk_cell h1']
    have h6 : (cur.toList.take ps.length)[j]? = some u := by rw [h5]; exact hj
    rw [List.getElem?_take, if_pos hj'] at h6
    simpa using h6
  · intro hr j hj
    simp only [List.length_cons, List.length_nil] at hj
    obtain rfl : j = 0 := by omega
    refine ⟨?_, blk_frozen h1' _⟩
    rw [blk_cell h1']
    simp
    omega
  · intro hr
    have hb := blk_set h1' ps.length (.int .i64 y)
    refine h _ _ g cp rfl ?_ ?_ ?_ (.inl rfl)
    · refine ⟨_, by simpa [World.setCells] using hb, by simp; omega, by simpa using h3, h4, ?_⟩
      simp only [List.length_append, List.length_cons, List.length_nil, List.map_append, List.map_cons, List.map_nil]
      rw [← h5, List.take_add_one]
      simp [List.getElem?_set, List.take_set_of_le]
      omega
    · intro gb lb hle hp
      by_cases e : gb = g
      · subst e
        obtain ⟨cur', q1, q2, q3⟩ := hp
        rw [h1] at q1
        simp only [Option.some.injEq, Obj.cells.injEq] at q1
        obtain ⟨rfl, -⟩ := q1
        have hle' := hle rfl
        refine ⟨_, by simpa [World.setCells] using hb, by simpa using q2, ?_⟩
        simp only [Array.toList_setIfInBounds]
        rw [List.take_set_of_le (by omega)]
        exact q3
      · refine hp.kept ?_
        have : gb < W.heap.size := hp.lt
        simp only [World.setCells]
        exact (Below.heap_setCell _ _ _ gb e).trans (Below.heap_alloc W _ gb this)
    · refine World.grownBy.trans hga ⟨rfl, rfl, rfl, by simp [World.setCells], fun k hk hne => ?_⟩
      simp only [World.setCells]
      exact Below.heap_setCell _ _ _ k (by simpa using hne)
  · intro hr v' w' hown hgr
    obtain ⟨q0, q1⟩ := hown
    rcases q1 with ⟨_, q1⟩ | ⟨g1, cap, cur1, rfl, hb, hgg, c1, c2, c3, c4⟩
    · omega
    · refine h _ _ g1 cap rfl ⟨cur1, hgg, by simpa using c1, by omega, c2, by simpa using c4⟩ ?_ (World.grownBy.trans hga (gb_but hgr _)) (.inr (by simp at hb; omega))
      intro gb lb _ hp
      exact hp.kept ((hgr.block gb (by have := hp.lt; simp; omega) (by simp)).trans (Below.heap_alloc W _ gb hp.lt))
end

end Go.Proofs.YtknlablmkcabkaaDoor
