/- Plain laws: small sets as numbers, steps, parts. -/
import Derived.Test.YtblfoijalcmfkaaPRowsCountsx
import Derived.Test.YtblfoijalcmfkaaHnd
namespace Go.Proofs.Ytblfoijalcmfkaa.Hand
open Go.RowKit Go.Proofs.YtblfoijalcmfkaaW.PrintWords Go.Proofs.YtblfoijalcmfkaaW.PrintLast Go.Proofs.YtblfoijalcmfkaaW.PrintMore Go.Proofs.YtblfoijalcmfkaaHnd Go.Proofs.Ytblfoijalcmfkaa.PRowsCounts
set_option linter.unusedVariables false
set_option linter.unusedSimpArgs false

/-! ### small sets -/
def maskN (l : List Int) : Nat := l.foldl (fun m x => m ||| 2 ^ x.toNat) 0
def Small (l : List Int) : Prop := ∀ x ∈ l, 0 ≤ x ∧ x < 62
theorem maskN_snoc (l : List Int) (x : Int) : maskN (l ++ [x]) = maskN l ||| 2 ^ x.toNat := by simp [maskN]
theorem snoc_ind {α : Type} {p : List α → Prop} (h0 : p []) (h1 : ∀ l x, p l → p (l ++ [x])) (l : List α) : p l := by
  rw [← List.reverse_reverse l]
  induction l.reverse with
  | nil => exact h0
  | cons a r ih => rw [List.reverse_cons]; exact h1 _ _ ih
theorem maskN_test (l : List Int) (h : Small l) (i : Nat) : (maskN l).testBit i = decide ((i : Int) ∈ l) := by
  induction l using snoc_ind with
  | h0 => simp [maskN]
  | h1 l x ih =>
    have hx := h x (by simp)
    rw [maskN_snoc, Nat.testBit_or, ih (fun y hy => h y (by simp [hy])), Nat.testBit_two_pow]
    rw [Bool.eq_iff_iff]
    simp
    constructor
    · rintro (h1 | h1)
      · exact .inl h1
      · exact .inr (by omega)
    · rintro (h1 | h1)
      · exact .inl h1
      · exact .inr (by omega)
theorem maskN_lt (l : List Int) (h : Small l) : maskN l < 2 ^ 62 := by
  apply Nat.lt_pow_two_of_testBit
  intro i hi
  rw [maskN_test l h]
  simp
  intro hm
  have := h _ hm
  omega
theorem wraps_i64 (n : Int) (h₀ : 0 ≤ n) (h₁ : n < 2 ^ 62) : IntKind.i64.wrap n = n := by rw [IntKind.wrap_i64]; omega
theorem bit_at (m : Nat) (hm : m < 2 ^ 62) (x : Nat) : bits .and .i64 ((m : Int) / 2 ^ x) 1 = if m.testBit x then 1 else 0 := by
  have e : ((m : Int) / 2 ^ x) = ((m / 2 ^ x : Nat) : Int) := by simp
  rw [e]
  have h1 : m / 2 ^ x < 2 ^ 62 := Nat.lt_of_le_of_lt (Nat.div_le_self _ _) hm
  have := (bits_nat .i64 62 (by decide) wraps_i64 (m / 2 ^ x) 1 h1 (by decide)).1
  rw [show ((1 : Nat) : Int) = 1 from rfl] at this
  rw [this, Nat.and_one_is_mod, Nat.testBit_eq_decide_div_mod_eq]
  by_cases hb : m / 2 ^ x % 2 = 1
  · simp [hb]
  · have : m / 2 ^ x % 2 = 0 := by omega
    simp [this]
theorem bit_or (m : Nat) (hm : m < 2 ^ 62) (x : Nat) (hx : x < 62) : bits .or .i64 (m : Int) (2 ^ x) = ((m ||| 2 ^ x : Nat) : Int) := by
  have := (bits_nat .i64 62 (by decide) wraps_i64 m (2 ^ x) hm (Nat.pow_lt_pow_right (by decide) hx)).2
  rw [← this]
  simp
theorem wrap_pow (x : Nat) (hx : x < 62) : wrap64 (2 ^ x) = 2 ^ x := by
  have : ((2 : Int) ^ x) < 2 ^ 62 := by exact_mod_cast Nat.pow_lt_pow_right (by decide : 1 < 2) hx
  have h0 : (0 : Int) ≤ 2 ^ x := by exact_mod_cast Nat.zero_le _
  unfold wrap64; omega

/-- A tone of a small set. -/
theorem has_mask (l : List Int) (h : Small l) (x : Int) (h0 : 0 ≤ x) : bits .and .i64 ((maskN l : Int) / 2 ^ x.toNat) 1 = if x ∈ l then 1 else 0 := by
  rw [bit_at _ (maskN_lt l h), maskN_test l h]
  simp [Int.toNat_of_nonneg h0]
theorem put_mask (l : List Int) (h : Small l) (x : Int) (h0 : 0 ≤ x) (h1 : x < 62) : bits .or .i64 (maskN l : Int) (2 ^ x.toNat) = (maskN (l ++ [x]) : Int) := by
  rw [bit_or _ (maskN_lt l h) _ (by omega), maskN_snoc]
theorem Small_snoc {l : List Int} (h : Small l) {x : Int} (h0 : 0 ≤ x) (h1 : x < 62) : Small (l ++ [x]) := by
  intro y hy
  rcases List.mem_append.1 hy with h' | h'
  · exact h y h'
  · simp at h'; subst h'; exact ⟨h0, h1⟩

/-! ### parts and steps -/
def stepsP (n : Int) : List Int → List Int
  | [] => []
  | [_] => []
  | a :: b :: r => ((b - a) % n) :: stepsP n (b :: r)
theorem stepsP_snoc (n : Int) (l : List Int) (y x : Int) : stepsP n (l ++ [y] ++ [x]) = stepsP n (l ++ [y]) ++ [(x - y) % n] := by
  induction l with
  | nil => rfl
  | cons a l ih =>
    cases l with
    | nil => rfl
    | cons b l => simp only [List.cons_append] at ih ⊢; simp only [stepsP, ih, List.cons_append]
def evB (n : Int) (l : List Int) : Bool := decide (stepsP n l).Nodup
def paB (l : List Int) : Bool := decide l.Nodup
def InR (n : Int) (l : List Int) : Prop := ∀ x ∈ l, 0 ≤ x ∧ x < n
theorem stepsP_small (n : Int) (hn : 0 < n) (hn1 : n ≤ 62) (l : List Int) : Small (stepsP n l) := by
  induction l with
  | nil => intro x hx; simp [stepsP] at hx
  | cons a l ih =>
    cases l with
    | nil => intro x hx; simp [stepsP] at hx
    | cons b l =>
      intro x hx
      simp only [stepsP, List.mem_cons] at hx
      rcases hx with rfl | hx
      · exact ⟨Int.emod_nonneg _ (by omega), by have := Int.emod_lt_of_pos (b - a) hn; omega⟩
      · exact ih x hx


theorem wrap64_id (a : Int) (h0 : -9223372036854775808 ≤ a) (h1 : a < 9223372036854775808) : wrap64 a = a := by unfold wrap64; omega
theorem refmod (x n : Int) (hn : 0 < n) (hn1 : n ≤ 1000) : sackbutref05_mod.f x n = some (x % n) := by
  have h1 : -n < Int.tmod x n := Int.lt_tmod_of_pos x hn
  have h2 : Int.tmod x n < n := Int.tmod_lt_of_pos x hn
  unfold sackbutref05_mod.f
  rw [if_neg (by omega), wrap64_id _ (by omega) (by omega), Int.tmod_eq_emod_of_nonneg (by omega), mod_plain x n hn]
theorem take_snoc' (l : List Int) (i : Nat) (h : i < l.length) : l.take (i + 1) = l.take i ++ [rd l i] := by
  rw [List.take_succ_eq_append_getElem h]; simp [rd, List.getD, List.getElem?_eq_getElem h]
theorem rd_mem (l : List Int) (i : Nat) (h : i < l.length) : rd l i ∈ l := by simp [rd, List.getD, List.getElem?_eq_getElem h]

theorem refsteps_from (n : Int) (hn : 0 < n) (hn1 : n ≤ 60) (l : List Int) (hl : InR n l) (hlen : l.length ≤ 1000) (d : Nat) : ∀ (k i : Nat), 1 ≤ i → i + d = l.length → d < k →
    sackbutref05_Steps.l0 k l n (stepsP n (l.take i)) (i : Int) = some (stepsP n l) := by
  induction d with
  | zero =>
    intro k i h1 h2 hk
    obtain ⟨k, rfl⟩ : ∃ m, k = m + 1 := ⟨k - 1, by omega⟩
    simp only [sackbutref05_Steps.l0]
    rw [if_neg (by omega), List.take_of_length_le (by omega)]
  | succ d ih =>
    intro k i h1 h2 hk
    obtain ⟨k, rfl⟩ : ∃ m, k = m + 1 := ⟨k - 1, by omega⟩
    obtain ⟨j, rfl⟩ : ∃ j, i = j + 1 := ⟨i - 1, by omega⟩
    have ha := hl _ (rd_mem l (j + 1) (by omega))
    have hb := hl _ (rd_mem l j (by omega))
    have e1 : wrap64 (((j + 1 : Nat) : Int) - 1) = (j : Int) := by unfold wrap64; omega
    simp only [sackbutref05_Steps.l0]
    rw [if_pos (by omega), if_pos (by omega), e1, if_pos (by omega), if_pos (by omega), wrap64_id _ (by omega) (by omega), refmod _ n hn (by omega)]
    simp only [Option.bind_some]
    have hs : stepsP n (l.take (j + 1 + 1)) = stepsP n (l.take (j + 1)) ++ [(rd l ((j + 1 : Nat) : Int) - rd l (j : Int)) % n] := by
      rw [take_snoc' l (j + 1) (by omega), take_snoc' l j (by omega), stepsP_snoc]
    have hle : (stepsP n (l.take (j + 1))).length ≤ 1000 := by
      have : ∀ m : List Int, (stepsP n m).length ≤ m.length := by
        intro m
        induction m with
        | nil => simp [stepsP]
        | cons a m ih => cases m with
          | nil => simp [stepsP]
          | cons b m => simp only [stepsP, List.length_cons] at ih ⊢; omega
      have h3 := this (l.take (j + 1))
      have := List.length_take_le (j + 1) l
      omega
    rw [if_pos (by omega), ← hs]
    have := ih k (j + 1 + 1) (by omega) (by omega) (by omega)
    rw [show wrap64 (((j + 1 : Nat) : Int) + 1) = ((j + 1 + 1 : Nat) : Int) from by unfold wrap64; omega]
    exact this
theorem refsteps (n : Int) (hn : 0 < n) (hn1 : n ≤ 60) (l : List Int) (hl : InR n l) (hlen : l.length ≤ 1000) (k : Nat) (hk : 1001 ≤ k) : sackbutref05_Steps.f k l n = some (stepsP n l) := by
  unfold sackbutref05_Steps.f
  cases l with
  | nil =>
    obtain ⟨k, rfl⟩ : ∃ m, k = m + 1 := ⟨k - 1, by omega⟩
    simp only [sackbutref05_Steps.l0]
    rw [if_neg (by simp)]
    rfl
  | cons a l =>
    have := refsteps_from n hn hn1 (a :: l) hl hlen l.length k 1 (by omega) (by simp; omega) (by simp at hlen; omega)
    simpa [stepsP] using this

theorem nodup_snoc (l : List Int) (x : Int) : (l ++ [x]).Nodup ↔ l.Nodup ∧ x ∉ l := by
  rw [List.nodup_append]
  simp
  intro _
  constructor
  · intro h hx; exact h x hx rfl
  · intro h a ha e; subst e; exact h ha
theorem nodup_take {l : List Int} (h : l.Nodup) (i : Nat) : (l.take i).Nodup := h.sublist (List.take_sublist i l)
theorem shr_at (m x : Int) (h0 : 0 ≤ x) (h1 : x ≤ 62) : shr .i64 m x = m / 2 ^ x.toNat := by
  unfold shr
  rw [show min x.toNat IntKind.i64.bits = x.toNat from Nat.min_eq_left (by show x.toNat ≤ 64; omega)]
theorem shl_at (x : Int) (h0 : 0 ≤ x) (h1 : x < 62) : shl .i64 1 x = 2 ^ x.toNat := by
  unfold shl
  rw [show min x.toNat IntKind.i64.bits = x.toNat from Nat.min_eq_left (by show x.toNat ≤ 64; omega), Int.one_mul, ← wrap_pow x.toNat (by omega)]
  rw [IntKind.wrap_i64]; unfold wrap64; omega

theorem Small_take {l : List Int} (h : Small l) (i : Nat) : Small (l.take i) := fun x hx => h x (List.mem_of_mem_take hx)
theorem refevery_from (st : List Int) (hs : Small st) (hlen : st.length ≤ 1000) (d : Nat) : ∀ (k i : Nat), i + d = st.length → d < k → (st.take i).Nodup →
    sackbutref05_Every.l0 k (maskN (st.take i) : Int) st (st.length : Int) (i : Int) = some (decide st.Nodup) := by
  induction d with
  | zero =>
    intro k i h2 hk hnd
    obtain ⟨k, rfl⟩ : ∃ m, k = m + 1 := ⟨k - 1, by omega⟩
    simp only [sackbutref05_Every.l0]
    rw [if_neg (by omega)]
    rw [List.take_of_length_le (by omega)] at hnd
    simp [hnd]
  | succ d ih =>
    intro k i h2 hk hnd
    obtain ⟨k, rfl⟩ : ∃ m, k = m + 1 := ⟨k - 1, by omega⟩
    have ha := hs _ (rd_mem st i (by omega))
    simp only [sackbutref05_Every.l0]
    rw [if_pos (by omega), if_pos (by omega), if_pos (by omega), if_pos ha.1, shr_at _ _ ha.1 (by omega), has_mask _ (Small_take hs i) _ ha.1]
    by_cases hm : rd st (i : Int) ∈ st.take i
    · rw [if_pos hm, if_pos rfl]
      have : ¬ st.Nodup := fun hn => by
        have h3 := nodup_take hn (i + 1)
        rw [take_snoc' st i (by omega), nodup_snoc] at h3
        exact h3.2 hm
      simp [this]
    · rw [if_neg hm, if_neg (by decide), shl_at _ ha.1 ha.2, put_mask _ (Small_take hs i) _ ha.1 ha.2, ← take_snoc' st i (by omega)]
      have := ih k (i + 1) (by omega) (by omega) (by rw [take_snoc' st i (by omega), nodup_snoc]; exact ⟨hnd, hm⟩)
      rw [show wrap64 ((i : Int) + 1) = ((i + 1 : Nat) : Int) from by unfold wrap64; omega]
      exact this
theorem stepsP_len (n : Int) (m : List Int) : (stepsP n m).length ≤ m.length := by
  induction m with
  | nil => simp [stepsP]
  | cons a m ih => cases m with
    | nil => simp [stepsP]
    | cons b m => simp only [stepsP, List.length_cons] at ih ⊢; omega
theorem refevery (n : Int) (hn : 0 < n) (hn1 : n ≤ 60) (l : List Int) (hl : InR n l) (hlen : l.length ≤ 1000) : sackbutref05_Every.f 1002 l n = some (evB n l) := by
  unfold sackbutref05_Every.f
  rw [refsteps n hn hn1 l hl hlen 1002 (by omega)]
  simp only [Option.bind_some]
  have h1 := stepsP_len n l
  have := refevery_from (stepsP n l) (stepsP_small n hn (by omega) l) (by omega) (stepsP n l).length 1002 0 (by omega) (by omega) (by simp)
  simpa [maskN, evB] using this
theorem refpart_from (n : Int) (hn : 0 < n) (hn1 : n ≤ 60) (st : List Int) (hs : InR n st) (hlen : st.length ≤ 1000) (d : Nat) : ∀ (k i : Nat), i + d = st.length → d < k → (st.take i).Nodup →
    sackbutref05_Part.l0 k n (maskN (st.take i) : Int) st (st.length : Int) (i : Int) = some (decide st.Nodup) := by
  have hS : Small st := fun x hx => by have := hs x hx; omega
  induction d with
  | zero =>
    intro k i h2 hk hnd
    obtain ⟨k, rfl⟩ : ∃ m, k = m + 1 := ⟨k - 1, by omega⟩
    simp only [sackbutref05_Part.l0]
    rw [if_neg (by omega)]
    rw [List.take_of_length_le (by omega)] at hnd
    simp [hnd]
  | succ d ih =>
    intro k i h2 hk hnd
    obtain ⟨k, rfl⟩ : ∃ m, k = m + 1 := ⟨k - 1, by omega⟩
    have ha := hs _ (rd_mem st i (by omega))
    simp only [sackbutref05_Part.l0]
    rw [if_pos (by omega), if_pos (by omega), if_pos (by omega), if_neg (by omega), if_neg (by omega), if_pos ha.1, shr_at _ _ ha.1 (by omega), has_mask _ (Small_take hS i) _ ha.1]
    by_cases hm : rd st (i : Int) ∈ st.take i
    · rw [if_pos hm, if_pos rfl]
      have : ¬ st.Nodup := fun hn => by
        have h3 := nodup_take hn (i + 1)
        rw [take_snoc' st i (by omega), nodup_snoc] at h3
        exact h3.2 hm
      simp [this]
    · rw [if_neg hm, if_neg (by decide), shl_at _ ha.1 (by omega), put_mask _ (Small_take hS i) _ ha.1 (by omega), ← take_snoc' st i (by omega)]
      have := ih k (i + 1) (by omega) (by omega) (by rw [take_snoc' st i (by omega), nodup_snoc]; exact ⟨hnd, hm⟩)
      rw [show wrap64 ((i : Int) + 1) = ((i + 1 : Nat) : Int) from by unfold wrap64; omega]
      exact this
theorem refpart (n : Int) (hn : 0 < n) (hn1 : n ≤ 60) (l : List Int) (hl : InR n l) (hlen : l.length ≤ 1000) : sackbutref05_Part.f 1002 l n = some (paB l) := by
  unfold sackbutref05_Part.f
  have := refpart_from n hn hn1 l hl hlen l.length 1002 0 (by omega) (by omega) (by simp)
  simpa [maskN, paB] using this

end Go.Proofs.Ytblfoijalcmfkaa.Hand
