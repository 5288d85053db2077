/- The number of beats: the program's count of bits and the reference's Size tell the same. -/
import Derived.Test.YtknlablmkcabkaaDoorPa
import Derived.Laws.BitsLemmas
namespace Go.Proofs.YtknlablmkcabkaaDoor.Pa
open Go.RowKit QCanonConditions Go.Proofs.YtknlablmkcabkaaDoorW.PrintWords Go.Proofs.YtknlablmkcabkaaDoorW.PrintLast Go.Proofs.YtknlablmkcabkaaDoorW.PrintMore
set_option linter.unusedVariables false
set_option linter.unusedSimpArgs false

/-- The number of bits. -/
def pop : Nat → Nat → Nat
  | 0, _ => 0
  | f + 1, x => x % 2 + pop f (x / 2)

theorem wrap_u64 (n : Int) (h0 : 0 ≤ n) (h1 : n < 18446744073709551616) : IntKind.u64.wrap n = n := by
  simp only [IntKind.wrap, IntKind.bits, IntKind.signed]
  simp
  omega
theorem and_u64 (a b : Nat) (ha : a < 18446744073709551616) (hb : b < 18446744073709551616) : Go.bits .and .u64 (a : Int) (b : Int) = ((a &&& b : Nat) : Int) :=
  (bits_nat .u64 64 (by decide) (fun n h0 h1 => wrap_u64 n h0 (by omega)) a b (by omega) (by omega)).1

theorem land_split (i a b c d : Nat) (ha : a < 2 ^ i) (hc : c < 2 ^ i) : (2 ^ i * b + a) &&& (2 ^ i * d + c) = 2 ^ i * (b &&& d) + (a &&& c) := by
  apply Nat.eq_of_testBit_eq
  intro j
  have hac : a &&& c < 2 ^ i := Nat.lt_of_le_of_lt Nat.and_le_left ha
  rw [Nat.testBit_and, Nat.testBit_two_pow_mul_add _ ha, Nat.testBit_two_pow_mul_add _ hc, Nat.testBit_two_pow_mul_add _ hac]
  split <;> simp

def S1 (m x : Nat) : Nat := (x / 2 &&& m) + (x &&& m)
def S2 (m x : Nat) : Nat := (x / 4 &&& m) + (x &&& m)
def S3 (m x : Nat) : Nat := (x / 16 + x) &&& m
theorem d1 : ∀ h < 2, ∀ a < 256, (128 * h + a / 2) &&& 85 = a / 2 &&& 85 := by decide +kernel
theorem d2 : ∀ h < 4, ∀ a < 256, (64 * h + a / 4) &&& 51 = a / 4 &&& 51 := by decide +kernel
theorem d3 : ∀ h < 5, ∀ a < 69, (16 * h + (a / 16 + a)) &&& 15 = (a / 16 + a) &&& 15 := by decide +kernel
theorem s1_split (m h a : Nat) (ha : a < 256) : S1 (256 * m + 85) (256 * h + a) = 256 * S1 m h + S1 85 a := by
  unfold S1
  have e : (256 * h + a) / 2 = 2 ^ 8 * (h / 2) + (128 * (h % 2) + a / 2) := by omega
  rw [e, show 256 * h + a = 2 ^ 8 * h + a from rfl, show 256 * m + 85 = 2 ^ 8 * m + 85 from rfl, land_split 8 _ _ _ _ (by omega) (by decide), land_split 8 _ _ _ _ (by omega) (by decide), d1 (h % 2) (by omega) a ha]
  omega
theorem s2_split (m h a : Nat) (ha : a < 256) : S2 (256 * m + 51) (256 * h + a) = 256 * S2 m h + S2 51 a := by
  unfold S2
  have e : (256 * h + a) / 4 = 2 ^ 8 * (h / 4) + (64 * (h % 4) + a / 4) := by omega
  rw [e, show 256 * h + a = 2 ^ 8 * h + a from rfl, show 256 * m + 51 = 2 ^ 8 * m + 51 from rfl, land_split 8 _ _ _ _ (by omega) (by decide), land_split 8 _ _ _ _ (by omega) (by decide), d2 (h % 4) (by omega) a ha]
  omega
theorem s3_split (m h a : Nat) (ha : a < 69) (hh : h % 16 < 5) : S3 (256 * m + 15) (256 * h + a) = 256 * S3 m h + S3 15 a := by
  unfold S3
  have e : (256 * h + a) / 16 + (256 * h + a) = 2 ^ 8 * (h / 16 + h) + (16 * (h % 16) + (a / 16 + a)) := by omega
  rw [e, show 256 * m + 15 = 2 ^ 8 * m + 15 from rfl, land_split 8 _ _ _ _ (by omega) (by decide), d3 (h % 16) (by omega) a ha]
theorem byte_all : ∀ a < 256, S1 85 a < 256 ∧ S2 51 (S1 85 a) < 69 ∧ S2 51 (S1 85 a) % 16 < 5 ∧ S3 15 (S2 51 (S1 85 a)) = pop 8 a ∧ pop 8 a ≤ 8 := by decide +kernel
theorem s_zero (m : Nat) : S1 m 0 = 0 ∧ S2 m 0 = 0 ∧ S3 m 0 = 0 := by simp [S1, S2, S3]
theorem three (b0 b1 b2 : Nat) (h0 : b0 < 256) (h1 : b1 < 256) (h2 : b2 < 256) :
    S3 1085102592571150095 (S2 3689348814741910323 (S1 6148914691236517205 (256 * (256 * (256 * 0 + b2) + b1) + b0))) = 256 * (256 * pop 8 b2 + pop 8 b1) + pop 8 b0 := by
  obtain ⟨p0, q0, r0, t0, _⟩ := byte_all b0 h0
  obtain ⟨p1, q1, r1, t1, _⟩ := byte_all b1 h1
  obtain ⟨p2, q2, r2, t2, _⟩ := byte_all b2 h2
  rw [show (6148914691236517205 : Nat) = 256 * (256 * (256 * 366503875925 + 85) + 85) + 85 from rfl, s1_split _ _ _ h0, s1_split _ _ _ h1, s1_split _ _ _ h2, (s_zero _).1]
  rw [show (3689348814741910323 : Nat) = 256 * (256 * (256 * 219902325555 + 51) + 51) + 51 from rfl, s2_split _ _ _ p0, s2_split _ _ _ p1, s2_split _ _ _ p2, (s_zero _).2.1]
  rw [show (1085102592571150095 : Nat) = 256 * (256 * (256 * 64677154575 + 15) + 15) + 15 from rfl, s3_split _ _ _ q0 (by omega), s3_split _ _ _ q1 (by omega), s3_split _ _ _ q2 (by omega), (s_zero _).2.2, t0, t1, t2]
  omega
theorem pop_add : ∀ i j x, pop (i + j) x = pop i (x % 2 ^ i) + pop j (x / 2 ^ i) := by
  intro i
  induction i with
  | zero => intro j x; simp [pop]
  | succ i ih =>
    intro j x
    rw [show i + 1 + j = (i + j) + 1 from by omega, pop, pop, ih]
    have e1 : x % 2 ^ (i + 1) % 2 = x % 2 := Nat.mod_mod_of_dvd _ ⟨2 ^ i, by rw [Nat.pow_succ]; omega⟩
    have e2 : x % 2 ^ (i + 1) / 2 = x / 2 % 2 ^ i := by rw [Nat.pow_succ, Nat.mul_comm, Nat.mod_mul_right_div_self]
    have e3 : x / 2 / 2 ^ i = x / 2 ^ (i + 1) := by rw [Nat.div_div_eq_div_mul, Nat.pow_succ, Nat.mul_comm]
    rw [e1, e2, e3]
    omega
theorem pop24 (b0 b1 b2 : Nat) (h0 : b0 < 256) (h1 : b1 < 256) (h2 : b2 < 256) : pop 24 (256 * (256 * (256 * 0 + b2) + b1) + b0) = pop 8 b0 + pop 8 b1 + pop 8 b2 := by
  rw [show 24 = 8 + (8 + 8) from rfl, pop_add 8, pop_add 8]
  have e1 : (256 * (256 * (256 * 0 + b2) + b1) + b0) % 2 ^ 8 = b0 := by omega
  have e2 : (256 * (256 * (256 * 0 + b2) + b1) + b0) / 2 ^ 8 % 2 ^ 8 = b1 := by omega
  have e3 : (256 * (256 * (256 * 0 + b2) + b1) + b0) / 2 ^ 8 / 2 ^ 8 = b2 := by omega
  rw [e1, e2, e3]
  omega
theorem land_le (x m : Nat) : x &&& m ≤ m := Nat.and_le_right
def A1 (a : Int) : Int := IntKind.u64.wrap (Go.bits .and .u64 (a / 2) 6148914691236517205 + Go.bits .and .u64 a 6148914691236517205)
def A2 (y : Int) : Int := IntKind.u64.wrap (Go.bits .and .u64 (y / 4) 3689348814741910323 + Go.bits .and .u64 y 3689348814741910323)
def A3 (y : Int) : Int := Go.bits .and .u64 (IntKind.u64.wrap (y / 16 + y)) 1085102592571150095
def A4 (m y : Int) : Int := IntKind.u64.wrap (y + y / m)
theorem count64_eq (a : Int) : bits_OnesCount64.f a = some (Go.bits .and .i64 (wrap64 (A4 4294967296 (A4 65536 (A4 256 (A3 (A2 (A1 a))))))) 127) := by
  unfold bits_OnesCount64.f A4 A3 A2 A1
  with_reducible rfl
theorem A1_eq (x : Nat) (hx : x < 16777216) : A1 (x : Int) = ((S1 6148914691236517205 x : Nat) : Int) := by
  unfold A1
  rw [show ((x : Int) / 2) = ((x / 2 : Nat) : Int) from by omega, show (6148914691236517205 : Int) = ((6148914691236517205 : Nat) : Int) from rfl, and_u64 _ _ (by omega) (by decide), and_u64 _ _ (by omega) (by decide), wrap_u64]
  · unfold S1; omega
  · omega
  · have := land_le (x / 2) 6148914691236517205
    have := land_le x 6148914691236517205
    omega
theorem S1_le (x : Nat) : S1 6148914691236517205 x ≤ 12297829382473034410 := by
  unfold S1
  have := land_le (x / 2) 6148914691236517205
  have := land_le x 6148914691236517205
  omega
theorem S2_le (x : Nat) : S2 3689348814741910323 x ≤ 7378697629483820646 := by
  unfold S2
  have := land_le (x / 4) 3689348814741910323
  have := land_le x 3689348814741910323
  omega
theorem A2_eq (y : Nat) (hy : y ≤ 12297829382473034410) : A2 (y : Int) = ((S2 3689348814741910323 y : Nat) : Int) := by
  unfold A2
  rw [show ((y : Int) / 4) = ((y / 4 : Nat) : Int) from by omega, show (3689348814741910323 : Int) = ((3689348814741910323 : Nat) : Int) from rfl, and_u64 _ _ (by omega) (by decide), and_u64 _ _ (by omega) (by decide), wrap_u64]
  · unfold S2; omega
  · omega
  · have := land_le (y / 4) 3689348814741910323
    have := land_le y 3689348814741910323
    omega
theorem A3_eq (y : Nat) (hy : y ≤ 7378697629483820646) : A3 (y : Int) = ((S3 1085102592571150095 y : Nat) : Int) := by
  unfold A3
  rw [wrap_u64 _ (by omega) (by omega), show ((y : Int) / 16 + (y : Int)) = ((y / 16 + y : Nat) : Int) from by omega, show (1085102592571150095 : Int) = ((1085102592571150095 : Nat) : Int) from rfl, and_u64 _ _ (by omega) (by decide)]
  rfl
theorem A4_sum (p0 p1 p2 : Nat) (q0 : p0 ≤ 8) (q1 : p1 ≤ 8) (q2 : p2 ≤ 8) : Go.bits .and .i64 (wrap64 (A4 4294967296 (A4 65536 (A4 256 ((256 * (256 * p2 + p1) + p0 : Nat) : Int))))) 127 = ((p0 + p1 + p2 : Nat) : Int) := by
  have f4 : A4 256 ((256 * (256 * p2 + p1) + p0 : Nat) : Int) = ((256 * (256 * p2 + p1) + p0 + (256 * p2 + p1) : Nat) : Int) := by
    unfold A4
    rw [wrap_u64 _ (by omega) (by omega)]; omega
  rw [f4]
  have f5 : A4 65536 ((256 * (256 * p2 + p1) + p0 + (256 * p2 + p1) : Nat) : Int) = ((256 * (256 * p2 + p1) + p0 + (256 * p2 + p1) + p2 : Nat) : Int) := by
    unfold A4
    rw [wrap_u64 _ (by omega) (by omega)]; omega
  rw [f5]
  have f6 : A4 4294967296 ((256 * (256 * p2 + p1) + p0 + (256 * p2 + p1) + p2 : Nat) : Int) = ((256 * (256 * p2 + p1) + p0 + (256 * p2 + p1) + p2 : Nat) : Int) := by
    unfold A4
    rw [wrap_u64 _ (by omega) (by omega)]; omega
  rw [f6, w64 _ (by omega) (by omega)]
  have f7 : Go.bits .and .i64 ((256 * (256 * p2 + p1) + p0 + (256 * p2 + p1) + p2 : Nat) : Int) 127 = ((256 * (256 * p2 + p1) + p0 + (256 * p2 + p1) + p2 : Nat) : Int) % 2 ^ 7 :=
    bits_mask .i64 63 (by decide) (fun n h0 h1 => by rw [IntKind.wrap_i64]; omega) 7 (by decide) _ (by omega) (by omega)
  rw [f7]
  omega
theorem count_pop (x : Nat) (hx : x < 16777216) : canon_count.f (x : Int) = some ((pop 24 x : Nat) : Int) := by
  obtain ⟨b0, b1, b2, h0, h1, h2, hb⟩ : ∃ b0 b1 b2, b0 < 256 ∧ b1 < 256 ∧ b2 < 256 ∧ x = 256 * (256 * (256 * 0 + b2) + b1) + b0 := ⟨x % 256, x / 256 % 256, x / 65536, by omega, by omega, by omega, by omega⟩
  have h3 := three b0 b1 b2 h0 h1 h2
  have h4 := pop24 b0 b1 b2 h0 h1 h2
  have q0 := (byte_all b0 h0).2.2.2.2
  have q1 := (byte_all b1 h1).2.2.2.2
  have q2 := (byte_all b2 h2).2.2.2.2
  rw [← hb] at h3 h4
  unfold canon_count.f bits_OnesCount.f
  rw [wrap_u64 (x : Int) (by omega) (by omega), count64_eq, A1_eq x hx, A2_eq _ (S1_le x), A3_eq _ (S2_le _), h3, A4_sum _ _ _ q0 q1 q2, h4]
  rfl

theorem pop_zero : ∀ f, pop f 0 = 0 := by
  intro f
  induction f with
  | zero => rfl
  | succ f ih => rw [pop, Nat.zero_div, ih]
theorem pop_le : ∀ f x, pop f x ≤ f := by
  intro f
  induction f with
  | zero => intro x; exact Nat.le_refl _
  | succ f ih => intro x; rw [pop]; have := ih (x / 2); omega
end Go.Proofs.YtknlablmkcabkaaDoor.Pa
