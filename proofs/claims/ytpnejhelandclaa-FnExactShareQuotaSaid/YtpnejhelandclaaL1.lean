/- Plain arithmetic for the ledger's first chapter: unsigned products and quotients in halves, wraps that do not wrap. No program in sight. -/
import Derived.RowKit
import Derived.IntWalk
import Derived.Lib.Mul64
import Derived.Laws.BitsLemmas
namespace Go.Proofs.Ytpnejhelandclaa.L1
open Go Go.RowKit

theorem u64w (n : Int) : IntKind.u64.wrap n = n % 18446744073709551616 := by simp [IntKind.wrap, IntKind.bits, IntKind.signed]
theorem u64w_id (n : Int) (h0 : 0 ≤ n) (h1 : n < 18446744073709551616) : IntKind.u64.wrap n = n := by rw [u64w]; omega
theorem wraps_u64 (n : Int) (h₀ : 0 ≤ n) (h₁ : n < 2 ^ 64) : IntKind.u64.wrap n = n := u64w_id n h₀ (by simpa using h₁)
theorem and32 (x : Int) (h0 : 0 ≤ x) (h1 : x < 18446744073709551616) : Go.bits .and .u64 x 4294967295 = x % 4294967296 :=
  bits_mask .u64 64 (by decide) wraps_u64 32 (by decide) x h0 (by simpa using h1)
theorem w64_id (n : Int) (h0 : -9223372036854775808 ≤ n) (h1 : n ≤ 9223372036854775807) : wrap64 n = n := by unfold wrap64; omega

/-- The whole product in halves, as the library's text reckons it. -/
theorem mul64 (a b : Int) (ha0 : 0 ≤ a) (ha : a < 18446744073709551616) (hb0 : 0 ≤ b) (hb : b < 18446744073709551616) :
    IntKind.u64.wrap ((IntKind.u64.wrap ((IntKind.u64.wrap ((a / 4294967296) * (b / 4294967296))) + ((IntKind.u64.wrap ((IntKind.u64.wrap ((a / 4294967296) * (Go.bits .and .u64 b 4294967295))) + ((IntKind.u64.wrap ((Go.bits .and .u64 a 4294967295) * (Go.bits .and .u64 b 4294967295))) / 4294967296))) / 4294967296))) + ((IntKind.u64.wrap ((Go.bits .and .u64 (IntKind.u64.wrap ((IntKind.u64.wrap ((a / 4294967296) * (Go.bits .and .u64 b 4294967295))) + ((IntKind.u64.wrap ((Go.bits .and .u64 a 4294967295) * (Go.bits .and .u64 b 4294967295))) / 4294967296))) 4294967295) + (IntKind.u64.wrap ((Go.bits .and .u64 a 4294967295) * (b / 4294967296))))) / 4294967296)) = a * b / 18446744073709551616 := by
  obtain ⟨x, rfl⟩ := Int.eq_ofNat_of_zero_le ha0
  obtain ⟨y, rfl⟩ := Int.eq_ofNat_of_zero_le hb0
  have hx : x < 18446744073709551616 := by omega
  have hy : y < 18446744073709551616 := by omega
  obtain ⟨h1, h2, h3, h4⟩ := Lib.mul64_hi x y hx hy
  have e1 : ((x : Int) / 4294967296) = ((x / 4294967296 : Nat) : Int) := by omega
  have e2 : ((y : Int) / 4294967296) = ((y / 4294967296 : Nat) : Int) := by omega
  have e3 : ((x : Int) % 4294967296) = ((x % 4294967296 : Nat) : Int) := by omega
  have e4 : ((y : Int) % 4294967296) = ((y % 4294967296 : Nat) : Int) := by omega
  have ep : ((x : Int) * (y : Int)) = ((x * y : Nat) : Int) := (Int.natCast_mul _ _).symm
  have eh : ((x * y / 18446744073709551616 : Nat) : Int) = ((x * y : Nat) : Int) / 18446744073709551616 := by omega
  have ma := Lib.half_mul_le (a := x / 4294967296) (b := y / 4294967296) (by omega) (by omega)
  have mb := Lib.half_mul_le (a := x / 4294967296) (b := y % 4294967296) (by omega) (by omega)
  have mc := Lib.half_mul_le (a := x % 4294967296) (b := y / 4294967296) (by omega) (by omega)
  have md := Lib.half_mul_le (a := x % 4294967296) (b := y % 4294967296) (by omega) (by omega)
  rw [and32 _ ha0 ha, and32 _ hb0 hb, e1, e2, e3, e4, ep, ← eh, ← h4]
  have p1 : (((x / 4294967296 : Nat) : Int) * ((y / 4294967296 : Nat) : Int)) = ((x / 4294967296 * (y / 4294967296) : Nat) : Int) := (Int.natCast_mul _ _).symm
  have p2 : (((x / 4294967296 : Nat) : Int) * ((y % 4294967296 : Nat) : Int)) = ((x / 4294967296 * (y % 4294967296) : Nat) : Int) := (Int.natCast_mul _ _).symm
  have p3 : (((x % 4294967296 : Nat) : Int) * ((y / 4294967296 : Nat) : Int)) = ((x % 4294967296 * (y / 4294967296) : Nat) : Int) := (Int.natCast_mul _ _).symm
  have p4 : (((x % 4294967296 : Nat) : Int) * ((y % 4294967296 : Nat) : Int)) = ((x % 4294967296 * (y % 4294967296) : Nat) : Int) := (Int.natCast_mul _ _).symm
  rw [p1, p2, p3, p4]
  generalize x / 4294967296 * (y / 4294967296) = a at *
  generalize x / 4294967296 * (y % 4294967296) = b at *
  generalize x % 4294967296 * (y / 4294967296) = c at *
  generalize x % 4294967296 * (y % 4294967296) = d at *
  have q1 : IntKind.u64.wrap (a : Int) = a := u64w_id _ (by omega) (by omega)
  have q2 : IntKind.u64.wrap (b : Int) = b := u64w_id _ (by omega) (by omega)
  have q3 : IntKind.u64.wrap (c : Int) = c := u64w_id _ (by omega) (by omega)
  have q4 : IntKind.u64.wrap (d : Int) = d := u64w_id _ (by omega) (by omega)
  rw [q1, q2, q3, q4]
  have q5 : IntKind.u64.wrap ((b : Int) + (d : Int) / 4294967296) = (b : Int) + (d : Int) / 4294967296 := u64w_id _ (by omega) (by omega)
  rw [q5, and32 _ (by omega) (by omega)]
  have q6 : IntKind.u64.wrap (((b : Int) + (d : Int) / 4294967296) % 4294967296 + (c : Int)) = ((b : Int) + (d : Int) / 4294967296) % 4294967296 + (c : Int) := u64w_id _ (by omega) (by omega)
  have q7 : IntKind.u64.wrap ((a : Int) + ((b : Int) + (d : Int) / 4294967296) / 4294967296) = (a : Int) + ((b : Int) + (d : Int) / 4294967296) / 4294967296 := u64w_id _ (by omega) (by omega)
  rw [q6, q7, u64w]
  omega

/-- |a| * |b| is at most M just where |b| is at most M / |a|. -/
theorem mul_le_iff (a b M : Int) (ha : 0 < a) : b ≤ M / a ↔ a * b ≤ M := by
  rw [Int.le_ediv_iff_mul_le ha, Int.mul_comm]

theorem abs_mul_cases (a b : Int) : (if a < 0 then -a else a) * (if b < 0 then -b else b) = a * b ∨ (if a < 0 then -a else a) * (if b < 0 then -b else b) = -(a * b) := by
  by_cases h : a < 0 <;> by_cases k : b < 0 <;> simp only [h, k, if_true, if_false, Int.neg_mul, Int.mul_neg, Int.neg_neg, true_or, or_true]
end Go.Proofs.Ytpnejhelandclaa.L1
