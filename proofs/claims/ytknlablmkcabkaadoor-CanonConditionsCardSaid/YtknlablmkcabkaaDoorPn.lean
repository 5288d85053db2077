/- A rhythm has a partner exactly if it meets both conditions; Build is one then. -/
import Derived.Test.YtknlablmkcabkaaDoorFour
import Derived.Test.YtknlablmkcabkaaDoorPl
import Derived.Test.YtknlablmkcabkaaDoorPe
import Derived.Test.YtknlablmkcabkaaDoorVis
namespace Go.Proofs.YtknlablmkcabkaaDoor.Pa
open Go.RowKit QCanonConditions Til Go.Proofs.YtknlablmkcabkaaDoorW.PrintWords Go.Proofs.YtknlablmkcabkaaDoorW.PrintLast Go.Proofs.YtknlablmkcabkaaDoorW.PrintMore
set_option linter.unusedVariables false
set_option linter.unusedSimpArgs false

def condT : List Nat := [0,
  0,
  513,
  769,
  67240449,
  1281,
  433192192476119553,
  1793,
  577591058913952257,
  151192321,
  721985518581383681,
  2817,
  5438382926926258561596919499059110401235709659334943147187536113590702637569,
  3329,
  1010778844686647809,
  1082274588282651393,
  21309348886097146566696128638716346881,
  4353,
  8157574389443433240381679691750262646844813331059442650109316688379660927489,
  4865,
  9063994594998387991260426919928281740963140191224830008697827976831331074561,
  1515183102463771393,
  1588365496897176065,
  5889,
  16886375773824601411274998951731937703260331914170621292287119657002736304163612501923614979250580557183150236388099674876507668334166972253041639177176326640294762637374570363793753188025957567659205925963841501341702155593403507764762453831622026741953521848849990337805542042577987174885065020263809352193]
/-- The mask of a list of bools. -/
def mk : List Bool → Nat
  | [] => 0
  | b :: l => Bool.toNat b + 2 * mk l
def condB (n m : Nat) : Nat := Nat.mod (Nat.shiftRight (condT.getD n 0) (8 * m)) 256
noncomputable def condOK (n : Nat) : Bool := (sizes n).all (leafAll n fun a b => Nat.beq (condB n (mk (zb n a))) (Nat.mod (sumT (tab n) a 0) 256) && Nat.beq (condB n (mk (zb n b))) (Nat.mod (sumT (tab n) b 0) 256))
theorem cond_20 : ((List.range 21).drop 2).all condOK = true := by decide +kernel
theorem cond_23 : [21, 22, 23].all condOK = true := by decide +kernel
theorem cond_24 : condOK 24 = true := by decide +kernel
theorem cond_at (n : Nat) (h2 : 2 ≤ n) (hn : n ≤ 24) : condOK n = true := by
  by_cases h : n ≤ 20
  · refine List.all_eq_true.mp cond_20 n ?_
    rw [List.mem_iff_getElem]
    exact ⟨n - 2, by simp; omega, by simp; omega⟩
  · by_cases h : n ≤ 23
    · exact List.all_eq_true.mp cond_23 n (by simp; omega)
    · obtain rfl : n = 24 := by omega
      exact cond_24
theorem size_sum (n a : Nat) (h2 : 2 ≤ n) (hn : n ≤ 24) : Nat.mod (sumT (tab n) a 0) 256 = (bitsL n a).length := by
  obtain ⟨h3, h4, h5⟩ := tab_at n h2 hn
  have hs := sumT_eq n a n 0 (by omega) 0 (blocks_zero n a).symm
  rw [Nat.pow_zero, Nat.div_one, ← List.range_eq_range', ← h3] at hs
  rw [hs]
  have hc : cS a n < 256 := by have := cS_le a n; omega
  show packL (blocks n a n) % 256 = _
  rw [← cS_bits]
  unfold blocks
  rw [packL]
  omega
/-- The roots as a mask. -/
def mkR (n a : Nat) : Nat := mk ((divs n).map (fun s => isR n (a : Int) s))
theorem tile_cond (n a b : Nat) (h2 : 2 ≤ n) (hn : n ≤ 24) (ha : a < 2 ^ n) (hb : b < 2 ^ n) (ha0 : a.testBit 0 = true) (hb0 : b.testBit 0 = true) (hT : Tile n a b) : condB n (mkR n a) = (bitsL n a).length := by
  have main : ∀ a b : Nat, a < 2 ^ n → b < 2 ^ n → a.testBit 0 = true → b.testBit 0 = true → Tile n a b → (bitsL n a).length ≤ (bitsL n b).length → condB n (mkR n a) = (bitsL n a).length ∧ condB n (mkR n b) = (bitsL n b).length := by
    intro a b ha hb ha0 hb0 hT hle
    have h1 := List.all_eq_true.mp (cond_at n h2 hn) _ (sizes_mem hT (by omega) hle)
    have h3 := leafAll_ok (by omega) ha hb ha0 hb0 hT rfl h1
    rw [zb_eq n a h2 hn ha, zb_eq n b h2 hn hb, size_sum n a h2 hn, size_sum n b h2 hn, Bool.and_eq_true] at h3
    exact ⟨Nat.eq_of_beq_eq_true h3.1, Nat.eq_of_beq_eq_true h3.2⟩
  rcases Nat.le_total (bitsL n a).length (bitsL n b).length with h | h
  · exact (main a b ha hb ha0 hb0 hT h).1
  · exact (main b a hb ha hb0 ha0 hT.symm h).2

/-- The product of the primes of the roots that are prime powers. -/
def pr (s : Int) : Int := (canon_prime.f 100 s).getD 0
def fp : List Int → Int → Int
  | [], x => x
  | s :: L, x => fp L (if pr s > 0 then wrap64 (x * pr s) else x)
theorem drop_get' (l : List Int) (j : Nat) (h : j < l.length) : l.drop j = rd l (j : Int) :: l.drop (j + 1) := by
  rw [List.drop_eq_getElem_cons h]
  simp [rd, List.getD, List.getElem?_eq_getElem h]
theorem prime_all : ((List.range 25).drop 2).all (fun s => (canon_prime.f 100 (s : Int)).isSome) = true := by decide +kernel
theorem prime_tot (s : Nat) (h2 : 2 ≤ s) (h : s ≤ 24) : Tot (fun k => canon_prime.f k (s : Int)) (pr (s : Int)) := by
  have hm : s ∈ (List.range 25).drop 2 := by
    rw [List.mem_iff_getElem]
    exact ⟨s - 2, by simp; omega, by simp; omega⟩
  have h1 := List.all_eq_true.mp prime_all s hm
  obtain ⟨p, hp⟩ := Option.isSome_iff_exists.mp h1
  have : pr (s : Int) = p := by unfold pr; rw [hp]; rfl
  rw [this]
  exact Tot.mono (fun k => canon_prime.mono _ k) hp
theorem rl_in (n : Nat) (z : Nat → Bool) : ∀ m s x, x ∈ rl n z m s → ∃ y : Nat, x = y ∧ s ≤ y ∧ y < s + m := by
  intro m
  induction m with
  | zero => intro s x h; simp [rl] at h
  | succ m ih =>
    intro s x h
    rw [rl] at h
    split at h
    · rcases List.mem_cons.mp h with rfl | h
      · exact ⟨s, rfl, by omega, by omega⟩
      · obtain ⟨y, e, h1, h2⟩ := ih _ _ h
        exact ⟨y, e, by omega, by omega⟩
    · obtain ⟨y, e, h1, h2⟩ := ih _ _ h
      exact ⟨y, e, by omega, by omega⟩
theorem first_l0 (a c : Int) (hc : canon_count.f a = some c) (L : List Int) (hL : ∀ x ∈ L, ∃ y : Nat, x = y ∧ 2 ≤ y ∧ y ≤ 24) (hlen : L.length ≤ 1000) : ∀ m j, j + m = L.length → ∀ x,
    Tot (fun k => canon_circle_first.l0 k a x L (L.length : Int) (j : Int)) (fp (L.drop j) x == c) := by
  intro m
  induction m with
  | zero =>
    intro j hj x
    rw [List.drop_of_length_le (by omega)]
    refine ⟨1, fun k hk => ?_⟩
    obtain ⟨k, rfl⟩ : ∃ k', k = k' + 1 := ⟨k - 1, by omega⟩
    show canon_circle_first.l0 (k + 1) _ _ _ _ _ = _
    rw [canon_circle_first.l0, if_neg (by omega), hc, Option.bind_some]
    rfl
  | succ m ih =>
    intro j hj x
    have hd := drop_get' L j (by omega)
    obtain ⟨y, hy, h2, h3⟩ := hL (rd L (j : Int)) (by simp [rd, List.getD, List.getElem?_eq_getElem (show j < L.length by omega)])
    have hp := prime_tot y h2 h3
    rw [hd, fp, hy]
    refine (hp.bind (H := fun k t => if t > 0 then canon_circle_first.l0 k a (wrap64 (x * t)) L (L.length : Int) (wrap64 ((j : Int) + 1)) else canon_circle_first.l0 k a x L (L.length : Int) (wrap64 ((j : Int) + 1))) ?_).succ (fun k => ?_)
    · have hw : wrap64 ((j : Int) + 1) = ((j + 1 : Nat) : Int) := by rw [w64 _ (by omega) (by omega)]; rfl
      rw [hw]
      by_cases h0 : pr (y : Int) > 0
      · rw [if_pos h0]
        exact (ih (j + 1) (by omega) _).eq (fun k => if_pos h0)
      · rw [if_neg h0]
        exact (ih (j + 1) (by omega) _).eq (fun k => if_neg h0)
    · rw [canon_circle_first.l0, if_pos (by omega), if_pos (by omega), if_pos (by omega), hy]
theorem first_tot (n a : Nat) (h2 : 2 ≤ n) (hn : n ≤ 24) (ha : a < 2 ^ n) : Tot (fun k => canon_circle_first.f k (n : Int) (a : Int)) (fp (rootsL n (isR n (a : Int))) 1 == (((bitsL n a).length : Nat) : Int)) := by
  have hlen : (rootsL n (isR n (a : Int))).length ≤ 1000 := by have := rl_length n (isR n (a : Int)) (n - 1) 2; unfold rootsL; omega
  have h1 := first_l0 (a : Int) _ (count_bits n a hn ha) (rootsL n (isR n (a : Int))) (fun x hx => by obtain ⟨y, e, h5, h6⟩ := rl_in n _ _ _ x hx; exact ⟨y, e, h5, by omega⟩) hlen (rootsL n (isR n (a : Int))).length 0 (by omega) 1
  exact (roots_tot (a : Int) n hn h2).bind (H := fun k t => canon_circle_first.l0 k (a : Int) 1 t (t.length : Int) 0) h1
theorem second_val (n a : Nat) (h2 : 2 ≤ n) (hn : n ≤ 24) : canon_circle_second.f (n : Int) (a : Int) = holds2.f 100 (rootsL n (isR n (a : Int))) 0 1 := by
  have hlen : (rootsL n (isR n (a : Int))).length ≤ 1000 := by have := rl_length n (isR n (a : Int)) (n - 1) 2; unfold rootsL; omega
  unfold canon_circle_second.f
  rw [(roots_tot (a : Int) n hn h2).lim (fun k => canon_circle_roots.mono _ _ k), Option.bind_some, if_pos (by omega)]

/-- The list of the divisors that a mask holds. -/
def ofM : List Nat → Nat → List Int
  | [], _ => []
  | s :: ds, m => if m % 2 = 1 then (s : Int) :: ofM ds (m / 2) else ofM ds (m / 2)
theorem ofM_mk (z : Nat → Bool) : ∀ ds : List Nat, ofM ds (mk (ds.map z)) = (ds.filter z).map (fun (s : Nat) => (s : Int)) := by
  intro ds
  induction ds with
  | nil => rfl
  | cons s ds ih =>
    rw [List.map_cons, mk, ofM, List.filter_cons]
    cases h : z s with
    | true =>
      rw [show (true.toNat + 2 * mk (ds.map z)) % 2 = 1 from by show (1 + 2 * mk (ds.map z)) % 2 = 1; omega, show (true.toNat + 2 * mk (ds.map z)) / 2 = mk (ds.map z) from by show (1 + 2 * mk (ds.map z)) / 2 = _; omega, ih]
      rfl
    | false =>
      rw [show (false.toNat + 2 * mk (ds.map z)) % 2 = 0 from by show (0 + 2 * mk (ds.map z)) % 2 = 0; omega, show (false.toNat + 2 * mk (ds.map z)) / 2 = mk (ds.map z) from by show (0 + 2 * mk (ds.map z)) / 2 = _; omega, ih]
      rfl
theorem rl_filter (n : Nat) (z : Nat → Bool) : ∀ m s, rl n z m s = (((List.range' s m).filter fun s => decide (n % s = 0) && z s).map fun (s : Nat) => (s : Int)) := by
  intro m
  induction m with
  | zero => intro s; rfl
  | succ m ih =>
    intro s
    rw [rl, List.range'_succ, List.filter_cons, ih]
    by_cases hd : n % s = 0
    · cases hz : z s with
      | true => rw [if_pos ⟨hd, rfl⟩, decide_eq_true hd]; rfl
      | false => rw [if_neg (fun h => by cases h.2), decide_eq_true hd]; rfl
    · rw [if_neg (fun h => hd h.1), decide_eq_false hd]; rfl
theorem roots_ofM (n : Nat) (z : Nat → Bool) (h2 : 2 ≤ n) : rootsL n z = ofM (divs n) (mk ((divs n).map z)) := by
  rw [ofM_mk]
  unfold rootsL
  rw [rl_filter]
  congr 1
  unfold divs
  rw [List.filter_filter, List.range_eq_range', show n + 1 = 2 + (n - 1) from by omega, ← List.range'_append_1]
  rw [List.filter_append]
  have e1 : (List.range' 0 2).filter (fun a => z a && (decide (2 ≤ a) && decide (n % a = 0))) = [] := by
    rw [show List.range' 0 2 = [0, 1] from rfl]
    simp
  rw [e1, List.nil_append]
  refine List.filter_congr (fun s hs => ?_)
  have : 2 ≤ s := by have := List.mem_range'_1.mp hs; omega
  rw [decide_eq_true this, Bool.true_and, Bool.and_comm]
/-- How many masks. -/
noncomputable def maskOK (n m : Nat) : Bool :=
  (fun L => (match holds2.f 100 L 0 1 with
    | some true => decide (condB n m ≠ 0) && decide (fp L 1 = (condB n m : Int)) && (match canon_Build.l0 1000 (n : Int) (n : Int) L 1 2 with
      | some (c, e) => decide (e = 0) && decide (0 ≤ c) && decide (c.toNat < 2 ^ n) && c.toNat.testBit 0 && decide (condB n m * (bitsL n c.toNat).length = n) && (divs n).all fun s => decide ((s : Int) ∈ L) || isR n c s
      | none => false)
    | some false => decide (condB n m = 0)
    | none => false)) (ofM (divs n) m)
theorem mask_all : ((List.range 25).drop 2).all (fun n => (List.range (2 ^ (divs n).length)).all (maskOK n)) = true := by decide +kernel
end Go.Proofs.YtknlablmkcabkaaDoor.Pa
