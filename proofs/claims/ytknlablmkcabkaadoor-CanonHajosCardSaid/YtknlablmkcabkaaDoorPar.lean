/- Partner, Partners and fills: the least partner, how many, whether there is one. -/
import Derived.Test.YtknlablmkcabkaaDoorFil
namespace Go.Proofs.YtknlablmkcabkaaDoor
open Go.RowKit Go.Shelf Go.Proofs.YtknlablmkcabkaaDoorW.PrintWords Go.Proofs.YtknlablmkcabkaaDoorW.PrintLast Go.Proofs.YtknlablmkcabkaaDoorW.PrintMore Go.Proofs.YtknlablmkcabkaaDoorHnd QCanonConditions Til Pa
set_option linter.unusedVariables false
set_option linter.unusedSimpArgs false

/-- A number in block B. -/
def J3 (B : Nat) (s : Int) (w : World) : Prop := w.heap[B]? = some (.cells #[.int .i64 s] 3 (0, 0))
theorem J3_drewN {B : Nat} {s : Int} {w : World} (m : Nat) (h : J3 B s w) : J3 B s (w.drewN m) := h
theorem J3_alloc {B : Nat} {s : Int} {w : World} (o : Obj) (h : J3 B s w) : J3 B s (w.alloc o) := blk_alloc h o
theorem J3_set {B : Nat} {s : Int} {w : World} (v : Int) (h : J3 B s w) : J3 B v (w.setCell ⟨B, 0, none⟩ (.int .i64 v)) := by
  have := blk_set h 0 (.int .i64 v)
  simpa [J3] using this
theorem gb_set (w : World) (B i : Nat) (v : Value) : w.grownBy (w.setCell ⟨B, i, none⟩ v) (some B) :=
  ⟨rfl, rfl, rfl, by simp, fun k hk hne => Below.heap_setCell _ _ _ k (by simpa using hne)⟩
theorem below_of_gb {w w' : World} {B base : Nat} (h : w.grownBy w' (some B)) (hB : base ≤ B) : (base ≤ w.heap.size) → Below base w w' := fun hs => ⟨h.os, h.tape, h.output, h.size, fun k hk => h.block k (by omega) (by simp; omega)⟩

theorem C_one (w : World) (x : Int) (t : TypeId) : Kd.C (Kd.int .i64) (w.alloc (.cells #[.int .i64 x] t)) (some ⟨w.heap.size, 0, none⟩) [x].length [x] := by
  refine ⟨rfl, by simp, fun _ => ⟨⟨w.heap.size, 0, none⟩, rfl, fun j p hj => ?_⟩⟩
  have hj0 : j = 0 := by
    have := (List.getElem?_eq_some_iff.mp hj).1
    simpa using this
  subst hj0
  simp at hj
  subst hj
  refine ⟨[.int .i64 x], rfl, rfl, fun i u hu => ?_⟩
  have hi : i = 0 := by
    have := (List.getElem?_eq_some_iff.mp hu).1
    simpa using this
  subst hi
  simp at hu
  subst hu
  exact (blk_cell (blk_new w _) 0).trans rfl

/-! ### The least one -/
def stepMin (s : Int) (b : Nat) : Int × Bool := (if s = 0 ∨ (b : Int) < s then (b : Int) else s, true)
theorem min_enters : Enters Tryd.prog 31 := enters_of Tryd.func31 (by kernel_rfl) rfl
set_option maxHeartbeats 400000 in
theorem more_min (n a Bn Bm Ba Bf B : Nat) : More n a 31 #[.pointer (some ⟨B, 0, none⟩)] Bn Bm Ba Bf B stepMin (J3 B) (fun _ => True) := by
  intro s b w hJ hB _
  have a0 := blk_cell hJ 0
  have f0 := blk_frozen hJ
  simp at a0
  have HJ := Aside0.mk hJ
  clear hJ hB
  by_cases h0 : s = 0
  · subst h0
    go_enter Tryd.func31, Tryd.ntmps31
    go_wp2
    go_ret
    exact ⟨by simp [stepMin], by simpa [stepMin] using J3_set _ HJ.out, gb_set _ _ _ _⟩
  · have h0' : (s == 0) = false := by rw [beq_eq_false_iff_ne]; exact h0
    by_cases h1 : (b : Int) < s
    · go_enter Tryd.func31, Tryd.ntmps31
      go_wp2
      go_ret
      exact ⟨by simp [stepMin], by simpa [stepMin, h0, h1] using J3_set _ HJ.out, gb_set _ _ _ _⟩
    · go_enter Tryd.func31, Tryd.ntmps31
      go_wp2
      go_ret
      exact ⟨by simp [stepMin], by show J3 B (if s = 0 ∨ (b : Int) < s then (b : Int) else s) w; rw [if_neg (fun h => h.elim h0 (fun h => by omega))]; exact HJ.out, gb_refl _ _⟩
/-- The least partner; 0: there is none. -/
def leastP (n a : Nat) : Int := (runL stepMin 0 (parts n a)).1
def leastE (n a : Nat) : Int := if leastP n a = 0 then 4 else 0
theorem min_run : ∀ (l : List Nat) (s : Int), (∀ b ∈ l, 0 < b) → 0 ≤ s → ((runL stepMin s l).1 = s ∧ (l = [] ∨ s ≠ 0) ∨ ∃ b ∈ l, (runL stepMin s l).1 = (b : Int)) ∧ (∀ b ∈ l, (runL stepMin s l).1 ≤ (b : Int)) ∧ ((s ≠ 0 → (runL stepMin s l).1 ≤ s) ∧ 0 ≤ (runL stepMin s l).1) := by
  intro l
  induction l with
  | nil => intro s _ h0; exact ⟨.inl ⟨rfl, .inl rfl⟩, fun b hb => (by cases hb), fun _ => Int.le_refl _, h0⟩
  | cons b l ih =>
    intro s hl h0
    have hb := hl b (by simp)
    have e : runL stepMin s (b :: l) = runL stepMin (stepMin s b).1 l := by rw [runL]; rfl
    rw [e]
    have hs : (stepMin s b).1 ≠ 0 ∧ 0 ≤ (stepMin s b).1 ∧ (stepMin s b).1 ≤ b ∧ ((stepMin s b).1 = b ∨ ((stepMin s b).1 = s ∧ s ≠ 0)) ∧ (s ≠ 0 → (stepMin s b).1 ≤ s) := by
      unfold stepMin
      by_cases h : s = 0 ∨ (b : Int) < s
      · rw [if_pos h]
        refine ⟨by simp; omega, by simp, Int.le_refl _, .inl rfl, fun hne => ?_⟩
        rcases h with h | h
        · exact absurd h hne
        · simp; omega
      · rw [if_neg h]
        have : ¬ s = 0 := fun e => h (.inl e)
        have : ¬ (b : Int) < s := fun e => h (.inr e)
        exact ⟨by assumption, h0, by simp; omega, .inr ⟨rfl, by assumption⟩, fun _ => Int.le_refl _⟩
    obtain ⟨i1, i2, i3, i4⟩ := ih (stepMin s b).1 (fun c hc => hl c (by simp [hc])) hs.2.1
    have i5 := i3 hs.1
    refine ⟨?_, ?_, fun hne => Int.le_trans i5 (hs.2.2.2.2 hne), i4⟩
    · rcases i1 with ⟨h1, _⟩ | ⟨c, hc, h1⟩
      · rcases hs.2.2.2.1 with h2 | h2
        · exact .inr ⟨b, by simp, by rw [h1, h2]⟩
        · exact .inl ⟨by rw [h1, h2.1], .inr h2.2⟩
      · exact .inr ⟨c, by simp [hc], h1⟩
    · intro c hc
      rcases List.mem_cons.mp hc with rfl | hc
      · exact Int.le_trans i5 hs.2.2.1
      · exact i2 c hc
theorem parts_pos {n a : Nat} (hn : 2 ≤ n) (ha : a < 2 ^ n) (ha0 : a.testBit 0 = true) : ∀ b ∈ parts n a, 0 < b := by
  intro b hb
  have := (parts_mem hn ha ha0 b).mp hb
  rcases Nat.eq_zero_or_pos b with h | h
  · rw [h] at this; simp at this
  · exact h
theorem least_none {n a : Nat} (h : parts n a = []) : leastP n a = 0 := by unfold leastP; rw [h]; rfl
theorem least_some {n a : Nat} (hn : 2 ≤ n) (ha : a < 2 ^ n) (ha0 : a.testBit 0 = true) (h : parts n a ≠ []) : ∃ b ∈ parts n a, leastP n a = (b : Int) ∧ 0 < b ∧ ∀ c ∈ parts n a, b ≤ c := by
  have hp := parts_pos hn ha ha0
  obtain ⟨h1, h2, _⟩ := min_run (parts n a) 0 hp (Int.le_refl _)
  rcases h1 with ⟨_, h1 | h1⟩ | ⟨b, hb, h1⟩
  · exact absurd h1 h
  · exact absurd rfl h1
  · refine ⟨b, hb, h1, hp b hb, fun c hc => ?_⟩
    have := h2 c hc
    rw [h1] at this
    omega

set_option maxHeartbeats 1000000 in
set_option maxRecDepth 100000 in
theorem partner_no (n a : Int) (w : World) (h : canon_circle_valid.f n [a] = some false) : Calls Tryd.prog 12 #[.int .i64 n, .int .i64 a] w fun e w' => e = .returned (.tuple #[.int .i64 0, .int .i64 2]) ∧ Below w.heap.size w w' := by
  have H := Aside0.mk h
  clear h
  go_enter Tryd.func12, Tryd.ntmps12
  go_wp2_with fail
  refine (canon_circle_valid.calls n _ 1 [a] false _ (C_one w a _) (by simp) H.out).mono ?_
  rintro e w2 ⟨rfl, hb⟩
  replace hb := Aside0.mk hb
  go_wp2
  go_ret2
  exact ⟨rfl, below_step ((Below.refl _ _).alloc (Nat.le_refl _) _) hb.out⟩
set_option maxHeartbeats 1000000 in
set_option maxRecDepth 100000 in
theorem partner_yes (n a : Nat) (h2 : 2 ≤ n) (hn : n ≤ 24) (ha : a < 2 ^ n) (w : World) (hT : Deb w) (h : canon_circle_valid.f (n : Int) [(a : Int)] = some true) :
    Calls Tryd.prog 12 #[.int .i64 (n : Int), .int .i64 (a : Int)] w fun e w' => e = .returned (.tuple #[.int .i64 (leastP n a), .int .i64 (leastE n a)]) ∧ Below w.heap.size w w' := by
  have hmf : ∀ (fn : Fn) (first cap : Array Value) (w : World), (Instr.makeFunc fn first cap).run Tryd.prog w = .ok (.func fn first cap) w := fun _ _ _ _ => rfl
  have H := Aside0.mk h
  have HT := Aside0.mk hT
  clear h hT
  go_enter Tryd.func12, Tryd.ntmps12
  go_wp2_with fail
  refine (canon_circle_valid.calls _ _ 1 [(a : Int)] true _ (C_one w a _) (by simp) H.out).mono ?_
  rintro e w2 ⟨rfl, hb⟩
  have hb2 := Aside0.mk (below_step ((Below.refl _ _).alloc (Nat.le_refl _) _) hb)
  clear hb
  go_wp2_with fail
  have hJ0 : J3 w2.heap.size 0 (w2.alloc (Obj.cells #[Value.int IntKind.i64 0] 3)) := blk_new w2 _
  have hd2 := HT.out.below hb2.out
  refine (partners_calls n a 31 #[.pointer (some ⟨w2.heap.size, 0, none⟩)] w2.heap.size stepMin (J3 w2.heap.size) (fun _ => True) h2 hn ha min_enters (fun _ _ m h => J3_drewN m h) (fun _ _ o h => J3_alloc o h) (fun _ _ => trivial) 0 _ hJ0 (hd2.below ((Below.refl _ _).alloc (Nat.le_refl _) _)) (by simp) (by have := hd2.lt; omega) (fun Bn Bm Ba Bf => more_min n a Bn Bm Ba Bf _)).mono ?_
  rintro e w3 ⟨rfl, hJ3, hg3⟩
  have hb3 := Aside0.mk (below_of_gb (base := w2.heap.size) hg3 (Nat.le_refl _) (by simp))
  have a0 := blk_cell hJ3 0
  simp at a0
  obtain ⟨P, hP⟩ : ∃ P, leastP n a = P := ⟨_, rfl⟩
  rw [show (runL stepMin 0 (parts n a)).1 = P from hP] at a0
  replace hP := Aside0.mk hP
  have hfin : Below w.heap.size w w3 := by
    have h1 : Below w2.heap.size w2 (w2.alloc (Obj.cells #[Value.int IntKind.i64 0] 3)) := (Below.refl _ _).alloc (Nat.le_refl _) _
    exact below_step hb2.out (h1.trans hb3.out)
  replace hfin := Aside0.mk hfin
  clear hJ0 hd2 hJ3 hg3 hb3
  by_cases h0 : P = 0
  · subst h0
    go_wp2
    go_ret2
    exact ⟨by unfold leastE; rw [hP.out]; rfl, hfin.out⟩
  · have h0' : (P == 0) = false := by rw [beq_eq_false_iff_ne]; exact h0
    go_wp2
    go_ret2
    exact ⟨by unfold leastE; rw [hP.out, if_neg h0]; rfl, hfin.out⟩

/-! ### How many -/
def stepCnt (s : Int) (b : Nat) : Int × Bool := (wrap64 (s + 1), true)
theorem cnt_enters : Enters Tryd.prog 30 := enters_of Tryd.func30 (by kernel_rfl) rfl
set_option maxHeartbeats 400000 in
theorem more_cnt (n a Bn Bm Ba Bf B : Nat) : More n a 30 #[.pointer (some ⟨B, 0, none⟩)] Bn Bm Ba Bf B stepCnt (J3 B) (fun _ => True) := by
  intro s b w hJ hB _
  have a0 := blk_cell hJ 0
  have f0 := blk_frozen hJ
  simp at a0
  have HJ := Aside0.mk hJ
  clear hJ hB
  have hw : IntKind.i64.wrap (s + 1) = wrap64 (s + 1) := i64_w _
  go_enter Tryd.func30, Tryd.ntmps30
  go_wp2
  go_ret
  exact ⟨by simp [stepCnt], by simpa [stepCnt] using J3_set _ HJ.out, gb_set _ _ _ _⟩
theorem cnt_run : ∀ (l : List Nat) (s : Int), 0 ≤ s → s + l.length < 9223372036854775807 → (runL stepCnt s l).1 = s + l.length := by
  intro l
  induction l with
  | nil => intro s _ _; simp [runL]
  | cons b l ih =>
    intro s h0 h1
    rw [List.length_cons] at h1
    have e : runL stepCnt s (b :: l) = runL stepCnt (wrap64 (s + 1)) l := by rw [runL]; rfl
    have hw : wrap64 (s + 1) = s + 1 := by unfold wrap64; omega
    rw [e, hw, ih (s + 1) (by omega) (by omega), List.length_cons]
    omega
set_option maxHeartbeats 1000000 in
set_option maxRecDepth 100000 in
theorem partners_no (n a : Int) (w : World) (h : canon_circle_valid.f n [a] = some false) : Calls Tryd.prog 9 #[.int .i64 n, .int .i64 a] w fun e w' => e = .returned (.tuple #[.int .i64 0, .int .i64 2]) ∧ Below w.heap.size w w' := by
  have H := Aside0.mk h
  clear h
  go_enter Tryd.func9, Tryd.ntmps9
  go_wp2_with fail
  refine (canon_circle_valid.calls n _ 1 [a] false _ (C_one w a _) (by simp) H.out).mono ?_
  rintro e w2 ⟨rfl, hb⟩
  replace hb := Aside0.mk hb
  go_wp2
  go_ret2
  exact ⟨rfl, below_step ((Below.refl _ _).alloc (Nat.le_refl _) _) hb.out⟩
set_option maxHeartbeats 1000000 in
set_option maxRecDepth 100000 in
theorem partners_yes (n a : Nat) (h2 : 2 ≤ n) (hn : n ≤ 24) (ha : a < 2 ^ n) (hl : (parts n a).length ≤ 16777216) (w : World) (hT : Deb w) (h : canon_circle_valid.f (n : Int) [(a : Int)] = some true) :
    Calls Tryd.prog 9 #[.int .i64 (n : Int), .int .i64 (a : Int)] w fun e w' => e = .returned (.tuple #[.int .i64 (((parts n a).length : Nat) : Int), .int .i64 0]) ∧ Below w.heap.size w w' := by
  have hmf : ∀ (fn : Fn) (first cap : Array Value) (w : World), (Instr.makeFunc fn first cap).run Tryd.prog w = .ok (.func fn first cap) w := fun _ _ _ _ => rfl
  have H := Aside0.mk h
  have HT := Aside0.mk hT
  clear h hT
  go_enter Tryd.func9, Tryd.ntmps9
  go_wp2_with fail
  refine (canon_circle_valid.calls _ _ 1 [(a : Int)] true _ (C_one w a _) (by simp) H.out).mono ?_
  rintro e w2 ⟨rfl, hb⟩
  have hb2 := Aside0.mk (below_step ((Below.refl _ _).alloc (Nat.le_refl _) _) hb)
  clear hb
  go_wp2_with fail
  have hJ0 : J3 w2.heap.size 0 (w2.alloc (Obj.cells #[Value.int IntKind.i64 0] 3)) := blk_new w2 _
  have hd2 := HT.out.below hb2.out
  refine (partners_calls n a 30 #[.pointer (some ⟨w2.heap.size, 0, none⟩)] w2.heap.size stepCnt (J3 w2.heap.size) (fun _ => True) h2 hn ha cnt_enters (fun _ _ m h => J3_drewN m h) (fun _ _ o h => J3_alloc o h) (fun _ _ => trivial) 0 _ hJ0 (hd2.below ((Below.refl _ _).alloc (Nat.le_refl _) _)) (by simp) (by have := hd2.lt; omega) (fun Bn Bm Ba Bf => more_cnt n a Bn Bm Ba Bf _)).mono ?_
  rintro e w3 ⟨rfl, hJ3, hg3⟩
  have hb3 := Aside0.mk (below_of_gb (base := w2.heap.size) hg3 (Nat.le_refl _) (by simp))
  have a0 := blk_cell hJ3 0
  simp at a0
  rw [cnt_run _ 0 (by omega) (by omega), Int.zero_add] at a0
  obtain ⟨P, hP⟩ : ∃ P : Int, (((parts n a).length : Nat) : Int) = P := ⟨_, rfl⟩
  rw [hP] at a0
  replace hP := Aside0.mk hP
  have hfin : Below w.heap.size w w3 := by
    have h1 : Below w2.heap.size w2 (w2.alloc (Obj.cells #[Value.int IntKind.i64 0] 3)) := (Below.refl _ _).alloc (Nat.le_refl _) _
    exact below_step hb2.out (h1.trans hb3.out)
  replace hfin := Aside0.mk hfin
  clear hJ0 hd2 hJ3 hg3 hb3
  go_wp2
  go_ret2
  exact ⟨by rw [hP.out]; rfl, hfin.out⟩
end Go.Proofs.YtknlablmkcabkaaDoor
