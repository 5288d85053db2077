/- Small words for walks by hand: the world under a name, blocks through steps, bits of small sets. -/
import Derived.Test.YtknlablmkcabkaaDoorWMore
import Derived.Test.YtknlablmkcabkaaDoorWWords
namespace Go.Proofs.YtknlablmkcabkaaDoorHnd
open Go.RowKit Go.Proofs.YtknlablmkcabkaaDoorW.PrintWords Go.Proofs.YtknlablmkcabkaaDoorW.PrintLast Go.Proofs.YtknlablmkcabkaaDoorW.PrintMore
set_option linter.unusedVariables false
set_option linter.unusedSimpArgs false

/-- The world under a name: what is known of it is said. -/
theorem at_world {P : Program} {C : Code} {Q : Exit → Act → World → Prop} {a : Act} {w0 : World} (F : World → Prop) (h : F w0) (k : ∀ W, F W → C.wp P Q a W) : C.wp P Q a w0 := k _ h

theorem at_then {K : Act → World → Prop} {Q : Exit → Act → World → Prop} {x : Exit} {a : Act} {w0 : World} (F : World → Prop) (h : F w0) (k : ∀ W, F W → Exit.then K Q x a W) : Exit.then K Q x a w0 := k _ h
theorem blk_new1 (w : World) (a b : Obj) : ((w.alloc a).alloc b).heap[w.heap.size + 1]? = some b := by have := blk_new (w.alloc a) b; rwa [World.size_alloc] at this
theorem blk_new0 (w : World) (a b : Obj) : ((w.alloc a).alloc b).heap[w.heap.size]? = some a := blk_alloc (blk_new w a) b
/-- A struct of four cells is stored. -/
theorem blk_set4 {w : World} {g : Nat} {t : TypeId} {a b c d a' b' c' d' : Value} (h : w.heap[g]? = some (.cells #[a, b, c, d] t (0, 0))) :
    ((((w.setCell ⟨g, 0, none⟩ a').setCell ⟨g, 1, none⟩ b').setCell ⟨g, 2, none⟩ c').setCell ⟨g, 3, none⟩ d').heap[g]? = some (.cells #[a', b', c', d'] t (0, 0)) := by
  simpa using blk_set (blk_set (blk_set (blk_set h 0 a') 1 b') 2 c') 3 d'
theorem blk_below {w w1 : World} {B g : Nat} {o' : Obj} (h : w.heap[g]? = some o') (hb : Below B w w1) (hg : g < B) : w1.heap[g]? = some o' := (hb.block g hg).trans h
theorem cell_one_at {w : World} {x : Value} {t : TypeId} {n : Nat} (hn : n = w.heap.size) : ∀ j u, [x][j]? = some u → (w.alloc (.cells #[x] t)).cell? ((⟨n, 0, none⟩ : Addr).add j) = some u := by subst hn; exact cell_one_new w x t
theorem own_succ {W : World} {base : Nat} {e : TypeId} {size : Nat} {v : Value} {k : Nat} {xs : List Value} (h : W.ownsRow base e size v (k + 1) xs) : ∃ g cap, v = .slice (some ⟨g, 0, none⟩) (k + 1) cap ∧ k + 1 ≤ cap := by
  rcases h.2 with ⟨_, h0⟩ | ⟨g, cap, _, rfl, h1, h2, h3, h4⟩
  · omega
  · exact ⟨g, cap, rfl, h3⟩
/-- A new row of whole numbers is read. -/
theorem C_of_ownsRow {W : World} {base : Nat} {g cap k : Nat} {l : List Int} (h : W.ownsRow base 3 1 (.slice (some ⟨g, 0, none⟩) k cap) k (l.map (Value.int .i64))) (hk : k = l.length) : Kd.C (Kd.int .i64) W (some ⟨g, 0, none⟩) k l := by
  subst hk
  obtain ⟨A, c, he, hc, hC⟩ := Kd.R_reads (Kd.R_of_own (enc := Value.int .i64) (h1 := fun _ => rfl) (ok := fun _ => True) h (fun _ _ => trivial))
  cases he
  exact hC
theorem add_blk (ad : Addr) (j : Nat) : (ad.add j).block = ad.block := by unfold Addr.add; split <;> rfl
/-- What is read stays where another block is written. -/
theorem C_grown {α : Type} {d : Kd α} {w w1 : World} {A : Option Addr} {n : Nat} {xs : List α} {row : Option Nat} (h : d.C w A n xs) (hg : w.grownBy w1 row) (hne : ∀ ad, A = some ad → some ad.block ≠ row) (hK : ∀ x cs, d.K w x cs → d.K w1 x cs) : d.C w1 A n xs := by
  refine ⟨h.1, h.2.1, fun hn => ?_⟩
  obtain ⟨ad, e, hc⟩ := h.2.2 hn
  refine ⟨ad, e, fun j p hj => ?_⟩
  obtain ⟨c, h1, h2, h3⟩ := hc j p hj
  exact ⟨c, h1, hK _ _ h2, fun i u hu => hg.cell (h3 i u hu) (by rw [add_blk]; exact hne ad e)⟩
theorem C_grown_int {w w1 : World} {A : Option Addr} {n : Nat} {xs : List Int} {row : Option Nat} (h : Kd.C (Kd.int .i64) w A n xs) (hg : w.grownBy w1 row) (hne : ∀ ad, A = some ad → some ad.block ≠ row) : Kd.C (Kd.int .i64) w1 A n xs := C_grown h hg hne (fun _ _ h => h)
theorem C_lt {w : World} {A : Option Addr} {n : Nat} {xs : List Int} (h : Kd.C (Kd.int .i64) w A n xs) (hn : 0 < n) : ∀ ad, A = some ad → ad.block < w.heap.size := by
  intro ad e
  obtain ⟨ad', e', hcell⟩ := Kd.at_int h 0 (by omega) (by omega)
  rw [e] at e'
  cases e'
  have := World.block_lt_of_cell? w _ hcell
  rwa [add_blk] at this
theorem gb_but {a c : World} (h : a.grownBy c none) (row : Option Nat) : a.grownBy c row := ⟨h.os, h.tape, h.output, h.size, fun i hi _ => h.block i hi (by simp)⟩
theorem gb_then {a b' c : World} {row row' : Option Nat} (h : a.grownBy b' row) (k : b'.grownBy c row') (hr : ∀ j, row' = some j → a.heap.size ≤ j ∨ row = some j) : a.grownBy c row :=
  ⟨k.os.trans h.os, k.tape.trans h.tape, k.output.trans h.output, Nat.le_trans h.size k.size, fun i hi hne => (k.block i (Nat.lt_of_lt_of_le hi h.size) (fun e => by
    rcases hr i e.symm with h1 | h1
    · omega
    · exact hne h1.symm)).trans (h.block i hi hne)⟩
/-- A call of the caller's function: it may write block B, rows of slices (blocks of type 25) and new memory; all else stays. -/
structure Kt (B : Nat) (w w' : World) : Prop where
  size : w.heap.size ≤ w'.heap.size
  blk : ∀ k cs e z, w.heap[k]? = some (.cells cs e z) → e ≠ 25 → k ≠ B → w'.heap[k]? = some (.cells cs e z)
theorem Kt.refl (B : Nat) (w : World) : Kt B w w := ⟨Nat.le_refl _, fun _ _ _ _ h _ _ => h⟩
theorem Kt.trans {B : Nat} {a b c : World} (h : Kt B a b) (k : Kt B b c) : Kt B a c := ⟨Nat.le_trans h.size k.size, fun i cs e z hi he hB => k.blk i cs e z (h.blk i cs e z hi he hB) he hB⟩
theorem Kt.of_none {B : Nat} {a b : World} (h : a.grownBy b none) : Kt B a b := ⟨h.size, fun k cs e z hk _ _ => (h.block k (blk_lt hk) (by simp)).trans hk⟩
theorem Kt.of_some {B : Nat} {a b : World} (h : a.grownBy b (some B)) : Kt B a b := ⟨h.size, fun k cs e z hk _ hB => (h.block k (blk_lt hk) (by simpa using hB)).trans hk⟩
theorem Kt.set (w : World) (B i : Nat) (v : Value) : Kt B w (w.setCell ⟨B, i, none⟩ v) := ⟨by simp, fun k cs e z hk _ hB => (Below.heap_setCell _ _ _ _ (by simpa using hB)).trans hk⟩
theorem C_kt {B : Nat} {w w1 : World} {A : Option Addr} {n : Nat} {xs : List Int} (h : Kd.C (Kd.int .i64) w A n xs) (hk : Kt B w w1) (hA : ∀ ad, A = some ad → ad.block ≠ B ∧ ∃ cs, w.heap[ad.block]? = some (.cells cs 3 (0, 0))) : Kd.C (Kd.int .i64) w1 A n xs := by
  refine ⟨h.1, h.2.1, fun hn => ?_⟩
  obtain ⟨ad, e, hc⟩ := h.2.2 hn
  obtain ⟨hB, cs, hb⟩ := hA ad e
  refine ⟨ad, e, fun j p hj => ?_⟩
  obtain ⟨c, h1, h2, h3⟩ := hc j p hj
  have hb' := hk.blk _ _ _ _ hb (by decide) hB
  exact ⟨c, h1, h2, fun i u hu => by rw [← h3 i u hu]; exact World.cell?_of_block (by rw [add_blk, hb, hb'])⟩
/-- A struct of four cells is stored into block B: what else is kept. -/
theorem Kt.set4 (w : World) (B : Nat) (a b c d : Value) : Kt B w ((((w.setCell ⟨B, 0, none⟩ a).setCell ⟨B, 1, none⟩ b).setCell ⟨B, 2, none⟩ c).setCell ⟨B, 3, none⟩ d) :=
  (((Kt.set _ _ _ _).trans (Kt.set _ _ _ _)).trans (Kt.set _ _ _ _)).trans (Kt.set _ _ _ _)
theorem Kt.alloc (B : Nat) (w : World) (o : Obj) : Kt B w (w.alloc o) := Kt.of_none (World.grownBy_alloc w o none)
theorem ret_i64 {a b : Int} (h : a = b) : Ending.returned (.int .i64 a) = .returned (.int .i64 b) := by rw [h]

/-- Numbers modulo n. -/
theorem mod_plain (x n : Int) (hn : 0 < n) : (Int.tmod x n + n) % n = x % n := by
  rw [Int.add_emod_right, Int.tmod_eq_emod]
  split
  · simp
  · rw [show ((n.natAbs : Nat) : Int) = n from by omega, Int.sub_emod_right, Int.emod_emod]

end Go.Proofs.YtknlablmkcabkaaDoorHnd
