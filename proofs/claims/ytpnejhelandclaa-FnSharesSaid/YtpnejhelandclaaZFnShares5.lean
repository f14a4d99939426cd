/- FnShares answers true at every code; no condition but the reach of its bytes. -/
import Derived.Test.YtpnejhelandclaaZFnShares4
import Derived.RowKit
import Derived.IntWalk
import Derived.Lib.Mul64
import Derived.Laws.BitsLemmas
import Derived.SizedLaws
import Derived.ChangeSlices
import Derived.Test.YtpnejhelandclaaRows
import Derived.WalkKit
import Derived.ProofKit
import Derived.OpenShut
import Derived.ShutString
import Derived.ChangeOld
import Derived.Below
namespace Go.Proofs.Ytpnejhelandclaa.P
end Go.Proofs.Ytpnejhelandclaa.P
namespace Go.Proofs.Ytpnejhelandclaa.EV
end Go.Proofs.Ytpnejhelandclaa.EV
namespace Go.Proofs.Ytpnejhelandclaa.L1
end Go.Proofs.Ytpnejhelandclaa.L1
namespace Go.Proofs.Ytpnejhelandclaa.I1
end Go.Proofs.Ytpnejhelandclaa.I1
namespace Go.Proofs.Ytpnejhelandclaa.A2
end Go.Proofs.Ytpnejhelandclaa.A2
namespace Go.Proofs.Ytpnejhelandclaa.TI
end Go.Proofs.Ytpnejhelandclaa.TI
namespace Go.Proofs.Ytpnejhelandclaa.W1
end Go.Proofs.Ytpnejhelandclaa.W1
namespace Go.Proofs.Ytpnejhelandclaa.S1
end Go.Proofs.Ytpnejhelandclaa.S1
namespace Go.Proofs.Ytpnejhelandclaa.S2
end Go.Proofs.Ytpnejhelandclaa.S2
namespace Go.Proofs.Ytpnejhelandclaa.S3
end Go.Proofs.Ytpnejhelandclaa.S3
namespace Go.Proofs.Ytpnejhelandclaa.S4
end Go.Proofs.Ytpnejhelandclaa.S4
namespace Go.Proofs.Ytpnejhelandclaa.S5
end Go.Proofs.Ytpnejhelandclaa.S5
namespace Go.Proofs.Ytpnejhelandclaa.W2
end Go.Proofs.Ytpnejhelandclaa.W2
namespace Go.Proofs.Ytpnejhelandclaa.S7
end Go.Proofs.Ytpnejhelandclaa.S7
namespace Go.Proofs.Ytpnejhelandclaa.W3
end Go.Proofs.Ytpnejhelandclaa.W3
namespace Go.Proofs.Ytpnejhelandclaa.D1
end Go.Proofs.Ytpnejhelandclaa.D1
namespace Go.Proofs.Ytpnejhelandclaa.W4
end Go.Proofs.Ytpnejhelandclaa.W4
namespace Go.Proofs.Ytpnejhelandclaa.W5
end Go.Proofs.Ytpnejhelandclaa.W5
namespace Go.Proofs.Ytpnejhelandclaa.W6
end Go.Proofs.Ytpnejhelandclaa.W6
namespace Go.Proofs.Ytpnejhelandclaa.L1
open Go Go.RowKit
theorem u64w (n : Int) : IntKind.u64.wrap n = n % 18446744073709551616 := by simp [IntKind.wrap, IntKind.bits, IntKind.signed]
theorem u64w_id (n : Int) (h0 : 0 ≤ n) (h1 : n < 18446744073709551616) : IntKind.u64.wrap n = n := by rw [u64w]; omega
theorem wraps_u64 (n : Int) (h₀ : 0 ≤ n) (h₁ : n < 2 ^ 64) : IntKind.u64.wrap n = n := u64w_id n h₀ (by simpa using h₁)
theorem and32 (x : Int) (h0 : 0 ≤ x) (h1 : x < 18446744073709551616) : Go.bits .and .u64 x 4294967295 = x % 4294967296 :=
  bits_mask .u64 64 (by decide) wraps_u64 32 (by decide) x h0 (by simpa using h1)
theorem w64_id (n : Int) (h0 : -9223372036854775808 ≤ n) (h1 : n ≤ 9223372036854775807) : wrap64 n = n := by unfold wrap64; omega
theorem mul64 (a b : Int) (ha0 : 0 ≤ a) (ha : a < 18446744073709551616) (hb0 : 0 ≤ b) (hb : b < 18446744073709551616) :
    IntKind.u64.wrap ((IntKind.u64.wrap ((IntKind.u64.wrap ((a / 4294967296) * (b / 4294967296))) + ((IntKind.u64.wrap ((IntKind.u64.wrap ((a / 4294967296) * (Go.bits .and .u64 b 4294967295))) + ((IntKind.u64.wrap ((Go.bits .and .u64 a 4294967295) * (Go.bits .and .u64 b 4294967295))) / 4294967296))) / 4294967296))) + ((IntKind.u64.wrap ((Go.bits .and .u64 (IntKind.u64.wrap ((IntKind.u64.wrap ((a / 4294967296) * (Go.bits .and .u64 b 4294967295))) + ((IntKind.u64.wrap ((Go.bits .and .u64 a 4294967295) * (Go.bits .and .u64 b 4294967295))) / 4294967296))) 4294967295) + (IntKind.u64.wrap ((Go.bits .and .u64 a 4294967295) * (b / 4294967296))))) / 4294967296)) = a * b / 18446744073709551616 := by
  obtain ⟨x, rfl⟩ := Int.eq_ofNat_of_zero_le ha0
  obtain ⟨y, rfl⟩ := Int.eq_ofNat_of_zero_le hb0
  have hx : x < 18446744073709551616 := by omega
  have hy : y < 18446744073709551616 := by omega
  obtain ⟨h1, h2, h3, h4⟩ := Lib.mul64_hi x y hx hy
  have e1 : ((x : Int) / 4294967296) = ((x / 4294967296 : Nat) : Int) := by omega
  have e2 : ((y : Int) / 4294967296) = ((y / 4294967296 : Nat) : Int) := by omega
  have e3 : ((x : Int) % 4294967296) = ((x % 4294967296 : Nat) : Int) := by omega
  have e4 : ((y : Int) % 4294967296) = ((y % 4294967296 : Nat) : Int) := by omega
  have ep : ((x : Int) * (y : Int)) = ((x * y : Nat) : Int) := (Int.natCast_mul _ _).symm
  have eh : ((x * y / 18446744073709551616 : Nat) : Int) = ((x * y : Nat) : Int) / 18446744073709551616 := by omega
  have ma := Lib.half_mul_le (a := x / 4294967296) (b := y / 4294967296) (by omega) (by omega)
  have mb := Lib.half_mul_le (a := x / 4294967296) (b := y % 4294967296) (by omega) (by omega)
  have mc := Lib.half_mul_le (a := x % 4294967296) (b := y / 4294967296) (by omega) (by omega)
  have md := Lib.half_mul_le (a := x % 4294967296) (b := y % 4294967296) (by omega) (by omega)
  rw [and32 _ ha0 ha, and32 _ hb0 hb, e1, e2, e3, e4, ep, ← eh, ← h4]
  have p1 : (((x / 4294967296 : Nat) : Int) * ((y / 4294967296 : Nat) : Int)) = ((x / 4294967296 * (y / 4294967296) : Nat) : Int) := (Int.natCast_mul _ _).symm
  have p2 : (((x / 4294967296 : Nat) : Int) * ((y % 4294967296 : Nat) : Int)) = ((x / 4294967296 * (y % 4294967296) : Nat) : Int) := (Int.natCast_mul _ _).symm
  have p3 : (((x % 4294967296 : Nat) : Int) * ((y / 4294967296 : Nat) : Int)) = ((x % 4294967296 * (y / 4294967296) : Nat) : Int) := (Int.natCast_mul _ _).symm
  have p4 : (((x % 4294967296 : Nat) : Int) * ((y % 4294967296 : Nat) : Int)) = ((x % 4294967296 * (y % 4294967296) : Nat) : Int) := (Int.natCast_mul _ _).symm
  rw [p1, p2, p3, p4]
  generalize x / 4294967296 * (y / 4294967296) = a at *
  generalize x / 4294967296 * (y % 4294967296) = b at *
  generalize x % 4294967296 * (y / 4294967296) = c at *
  generalize x % 4294967296 * (y % 4294967296) = d at *
  have q1 : IntKind.u64.wrap (a : Int) = a := u64w_id _ (by omega) (by omega)
  have q2 : IntKind.u64.wrap (b : Int) = b := u64w_id _ (by omega) (by omega)
  have q3 : IntKind.u64.wrap (c : Int) = c := u64w_id _ (by omega) (by omega)
  have q4 : IntKind.u64.wrap (d : Int) = d := u64w_id _ (by omega) (by omega)
  rw [q1, q2, q3, q4]
  have q5 : IntKind.u64.wrap ((b : Int) + (d : Int) / 4294967296) = (b : Int) + (d : Int) / 4294967296 := u64w_id _ (by omega) (by omega)
  rw [q5, and32 _ (by omega) (by omega)]
  have q6 : IntKind.u64.wrap (((b : Int) + (d : Int) / 4294967296) % 4294967296 + (c : Int)) = ((b : Int) + (d : Int) / 4294967296) % 4294967296 + (c : Int) := u64w_id _ (by omega) (by omega)
  have q7 : IntKind.u64.wrap ((a : Int) + ((b : Int) + (d : Int) / 4294967296) / 4294967296) = (a : Int) + ((b : Int) + (d : Int) / 4294967296) / 4294967296 := u64w_id _ (by omega) (by omega)
  rw [q6, q7, u64w]
  omega
end Go.Proofs.Ytpnejhelandclaa.L1
namespace Go.Proofs.Ytpnejhelandclaa.A2
open Go Go.RowKit Go.Proofs.Ytpnejhelandclaa.P Go.Proofs.YtpnejhelandclaaW.PrintWords Go.Proofs.YtpnejhelandclaaW.PrintLast Go.Proofs.YtpnejhelandclaaW.PrintMore Go.Proofs.Ytpnejhelandclaa.EV Go.Proofs.Ytpnejhelandclaa.L1 Go.Proofs.Ytpnejhelandclaa.I1
def Bits (x : Int) (n : Nat) : Prop := (x = 0 ∧ n = 0) ∨ (0 < n ∧ 2 ^ (n - 1) ≤ x ∧ x < 2 ^ n)
def tab : ByteArray := (⟨#[0, 1, 2, 2, 3, 3, 3, 3, 4, 4, 4, 4, 4, 4, 4, 4, 5, 5, 5, 5, 5, 5, 5, 5, 5, 5, 5, 5, 5, 5, 5, 5, 6, 6, 6, 6, 6, 6, 6, 6, 6, 6, 6, 6, 6, 6, 6, 6, 6, 6, 6, 6, 6, 6, 6, 6, 6, 6, 6, 6, 6, 6, 6, 6, 7, 7, 7, 7, 7, 7, 7, 7, 7, 7, 7, 7, 7, 7, 7, 7, 7, 7, 7, 7, 7, 7, 7, 7, 7, 7, 7, 7, 7, 7, 7, 7, 7, 7, 7, 7, 7, 7, 7, 7, 7, 7, 7, 7, 7, 7, 7, 7, 7, 7, 7, 7, 7, 7, 7, 7, 7, 7, 7, 7, 7, 7, 7, 7, 8, 8, 8, 8, 8, 8, 8, 8, 8, 8, 8, 8, 8, 8, 8, 8, 8, 8, 8, 8, 8, 8, 8, 8, 8, 8, 8, 8, 8, 8, 8, 8, 8, 8, 8, 8, 8, 8, 8, 8, 8, 8, 8, 8, 8, 8, 8, 8, 8, 8, 8, 8, 8, 8, 8, 8, 8, 8, 8, 8, 8, 8, 8, 8, 8, 8, 8, 8, 8, 8, 8, 8, 8, 8, 8, 8, 8, 8, 8, 8, 8, 8, 8, 8, 8, 8, 8, 8, 8, 8, 8, 8, 8, 8, 8, 8, 8, 8, 8, 8, 8, 8, 8, 8, 8, 8, 8, 8, 8, 8, 8, 8, 8, 8, 8, 8, 8, 8, 8, 8, 8, 8, 8, 8, 8, 8, 8, 8]⟩ : ByteArray)
theorem tab8 : ∀ x : Fin 256, 0 ≤ bt tab (x.val : Int) ∧ bt tab (x.val : Int) ≤ 8 ∧ ((x.val = 0 ∧ bt tab (x.val : Int) = 0) ∨ (0 < bt tab (x.val : Int) ∧ (2 : Int) ^ ((bt tab (x.val : Int)).toNat - 1) ≤ x.val ∧ (x.val : Int) < 2 ^ (bt tab (x.val : Int)).toNat)) := by decide +kernel
theorem tab_at (x : Int) (h0 : 0 ≤ x) (h1 : x < 256) : ∃ n : Nat, bt tab x = (n : Int) ∧ n ≤ 8 ∧ Bits x n := by
  obtain ⟨m, rfl⟩ := Int.eq_ofNat_of_zero_le h0
  obtain ⟨a, b, c⟩ : 0 ≤ bt tab (m : Int) ∧ bt tab (m : Int) ≤ 8 ∧ ((m = 0 ∧ bt tab (m : Int) = 0) ∨ (0 < bt tab (m : Int) ∧ (2 : Int) ^ ((bt tab (m : Int)).toNat - 1) ≤ m ∧ (m : Int) < 2 ^ (bt tab (m : Int)).toNat)) := tab8 ⟨m, by omega⟩
  refine ⟨(bt tab (m : Int)).toNat, by omega, by omega, ?_⟩
  rcases c with ⟨c1, c2⟩ | ⟨c1, c2, c3⟩
  · exact .inl ⟨by omega, by omega⟩
  · exact .inr ⟨by omega, c2, c3⟩
theorem bits_up {x y : Int} {n : Nat} (s : Nat) (hs : y = x / 2 ^ s) (hy : 0 < y) (h : Bits y n) : Bits x (n + s) := by
  rcases h with ⟨h, _⟩ | ⟨h0, h1, h2⟩
  · omega
  · have hp : (0 : Int) < 2 ^ s := Int.pow_pos (by decide)
    have e1 : (2 : Int) ^ (n + s - 1) = 2 ^ (n - 1) * 2 ^ s := by rw [← Int.pow_add]; congr 1; omega
    have e2 : (2 : Int) ^ (n + s) = 2 ^ n * 2 ^ s := Int.pow_add _ _ _
    refine .inr ⟨by omega, ?_, ?_⟩
    · rw [e1]
      exact Int.le_trans (Int.mul_le_mul_of_nonneg_right h1 (Int.le_of_lt hp)) (by rw [hs]; exact Int.ediv_mul_le x (Int.ne_of_gt hp))
    · rw [e2]
      have := Int.lt_ediv_add_one_mul_self x hp
      rw [← hs] at this
      exact Int.lt_of_lt_of_le this (Int.mul_le_mul_of_nonneg_right (by omega) (Int.le_of_lt hp))
def body8 (x c : Int) : Option Int := if x ≥ 65536 then (if (x / 65536) ≥ 256 then (if 0 ≤ (((x / 65536) / 256) % 256) then (if (((x / 65536) / 256) % 256) < 256 then (some (wrap64 ((wrap64 ((wrap64 (c + 16)) + 8)) + (wrap64 (bt tab (((x / 65536) / 256) % 256)))))) else (none)) else (none)) else (if 0 ≤ ((x / 65536) % 256) then (if ((x / 65536) % 256) < 256 then (some (wrap64 ((wrap64 (c + 16)) + (wrap64 (bt tab ((x / 65536) % 256)))))) else (none)) else (none))) else (if x ≥ 256 then (if 0 ≤ ((x / 256) % 256) then (if ((x / 256) % 256) < 256 then (some (wrap64 ((wrap64 (c + 8)) + (wrap64 (bt tab ((x / 256) % 256)))))) else (none)) else (none)) else (if 0 ≤ ((x) % 256) then (if ((x) % 256) < 256 then (some (wrap64 (c + (wrap64 (bt tab ((x) % 256)))))) else (none)) else (none)))
theorem body8_is (k : Nat) (x c : Int) : bits_Len64.j0 (k + 1) x c = body8 x c := rfl
theorem len64j (x c : Int) (h0 : 0 ≤ x) (h1 : x < 4294967296) (hc : 0 ≤ c) (hc2 : c ≤ 32) : ∃ n : Nat, n ≤ 32 ∧ Bits x n ∧ ∀ k, bits_Len64.j0 (k + 1) x c = some (c + n) := by
  by_cases a : x ≥ 65536
  · by_cases b : x / 65536 ≥ 256
    · obtain ⟨n, e, hn, hb⟩ := tab_at (x / 65536 / 256) (by omega) (by omega)
      refine ⟨n + 24, by omega, bits_up 24 (by omega) (by omega) hb, fun k => ?_⟩
      rw [body8_is]
      unfold body8
      rw [if_pos a, if_pos b, show x / 65536 / 256 % 256 = x / 65536 / 256 by omega, if_pos (by omega), if_pos (by omega)]
      rw [e, w64_id (c + 16) (by omega) (by omega), w64_id (c + 16 + 8) (by omega) (by omega), w64_id (n : Int) (by omega) (by omega), w64_id _ (by omega) (by omega)]
      exact congrArg some (by omega)
    · obtain ⟨n, e, hn, hb⟩ := tab_at (x / 65536) (by omega) (by omega)
      refine ⟨n + 16, by omega, bits_up 16 (by omega) (by omega) hb, fun k => ?_⟩
      rw [body8_is]
      unfold body8
      rw [if_pos a, if_neg b, show x / 65536 % 256 = x / 65536 by omega, if_pos (by omega), if_pos (by omega)]
      rw [e, w64_id (c + 16) (by omega) (by omega), w64_id (n : Int) (by omega) (by omega), w64_id _ (by omega) (by omega)]
      exact congrArg some (by omega)
  · by_cases b : x ≥ 256
    · obtain ⟨n, e, hn, hb⟩ := tab_at (x / 256) (by omega) (by omega)
      refine ⟨n + 8, by omega, bits_up 8 (by omega) (by omega) hb, fun k => ?_⟩
      rw [body8_is]
      unfold body8
      rw [if_neg a, if_pos b, show x / 256 % 256 = x / 256 by omega, if_pos (by omega), if_pos (by omega)]
      rw [e, w64_id (c + 8) (by omega) (by omega), w64_id (n : Int) (by omega) (by omega), w64_id _ (by omega) (by omega)]
      exact congrArg some (by omega)
    · obtain ⟨n, e, hn, hb⟩ := tab_at x (by omega) (by omega)
      refine ⟨n, by omega, hb, fun k => ?_⟩
      rw [body8_is]
      unfold body8
      rw [if_neg a, if_neg b, show x % 256 = x by omega, if_pos (by omega), if_pos (by omega)]
      rw [e, w64_id (n : Int) (by omega) (by omega), w64_id _ (by omega) (by omega)]
theorem zeros64 (y : Int) (h0 : 0 < y) (h1 : y < 18446744073709551616) : ∃ s : Nat, s ≤ 63 ∧ 9223372036854775808 ≤ y * 2 ^ s ∧ y * 2 ^ s < 18446744073709551616 ∧ ∀ k, bits_LeadingZeros64.f (k + 1) y = some (s : Int) := by
  have fin : ∀ n : Nat, n ≤ 64 → Bits y n → ∃ s : Nat, s ≤ 63 ∧ (s : Int) = 64 - n ∧ 9223372036854775808 ≤ y * 2 ^ s ∧ y * 2 ^ s < 18446744073709551616 := by
    intro n hn hb
    rcases hb with ⟨h, _⟩ | ⟨a, b, c⟩
    · omega
    · have hp : (0 : Int) < 2 ^ (64 - n) := Int.pow_pos (by decide)
      refine ⟨64 - n, by omega, by omega, ?_, ?_⟩
      · have e : (9223372036854775808 : Int) = 2 ^ (n - 1) * 2 ^ (64 - n) := by rw [← Int.pow_add, show n - 1 + (64 - n) = 63 by omega]; decide
        rw [e]
        exact Int.mul_le_mul_of_nonneg_right b (Int.le_of_lt hp)
      · have e : (18446744073709551616 : Int) = 2 ^ n * 2 ^ (64 - n) := by rw [← Int.pow_add, show n + (64 - n) = 64 by omega]; decide
        rw [e]
        exact Int.mul_lt_mul_of_pos_right c hp
  by_cases a : y ≥ 4294967296
  · obtain ⟨n, hn, hb, e⟩ := len64j (y / 4294967296) 32 (by omega) (by omega) (by decide) (by decide)
    obtain ⟨s, s0, s1, s2, s3⟩ := fin (n + 32) (by omega) (bits_up 32 (by omega) (by omega) hb)
    refine ⟨s, s0, s2, s3, fun k => ?_⟩
    unfold bits_LeadingZeros64.f bits_Len64.f
    rw [if_pos a, e, Option.bind_some, w64_id _ (by omega) (by omega)]
    exact congrArg some (by omega)
  · obtain ⟨n, hn, hb, e⟩ := len64j y 0 (by omega) (by omega) (by decide) (by decide)
    obtain ⟨s, s0, s1, s2, s3⟩ := fin n (by omega) hb
    refine ⟨s, s0, s2, s3, fun k => ?_⟩
    unfold bits_LeadingZeros64.f bits_Len64.f
    rw [if_neg a, e, Option.bind_some, w64_id _ (by omega) (by omega)]
    exact congrArg some (by omega)
structure Trial (yn1 yn0 n u q r : Int) : Prop where
  q0 : 0 ≤ q
  q1 : q ≤ 4294967297
  r0 : 0 ≤ r
  r1 : r < 4294967296
  e : q * yn1 + r = n
  up : n * 4294967296 + u < (q * yn1) * 4294967296 + q * yn0 + yn1 * 4294967296 + yn0
structure Halves (yn1 yn0 n u : Int) : Prop where
  a0 : 2147483648 ≤ yn1
  a1 : yn1 < 4294967296
  b0 : 0 ≤ yn0
  b1 : yn0 < 4294967296
  u0 : 0 ≤ u
  u1 : u < 4294967296
  n0 : 0 ≤ n
  n1 : n < yn1 * 4294967296 + yn0
theorem digit_lt {yn1 yn0 n u q : Int} (h : Halves yn1 yn0 n u) (hq : (q * yn1) * 4294967296 + q * yn0 ≤ n * 4294967296 + u) : q < 4294967296 := by
  obtain ⟨a0, a1, b0, b1, u0, u1, n0, n1⟩ := h
  rcases (by omega : q < 4294967296 ∨ 4294967296 ≤ q) with hlt | hge
  · exact hlt
  · exfalso
    have p1 : 4294967296 * yn1 ≤ q * yn1 := Int.mul_le_mul_of_nonneg_right hge (by omega)
    have p2 : 4294967296 * yn0 ≤ q * yn0 := Int.mul_le_mul_of_nonneg_right hge b0
    generalize q * yn1 = A at *
    generalize q * yn0 = C at *
    omega
theorem trial_down {yn1 yn0 n u q r : Int} (h : Halves yn1 yn0 n u) (t : Trial yn1 yn0 n u q r) (ht : 4294967296 ≤ q ∨ 4294967296 * r + u < q * yn0) :
    1 ≤ q ∧ n * 4294967296 + u < (q * yn1) * 4294967296 + q * yn0 ∧ (q - 1) * yn1 = q * yn1 - yn1 ∧ (q - 1) * yn0 = q * yn0 - yn0 ∧ q * yn0 - yn0 ≤ 18446744069414584320 := by
  obtain ⟨a0, a1, b0, b1, u0, u1, n0, n1⟩ := h
  obtain ⟨q0, q1, r0, r1, e, up⟩ := t
  have e1 : (q - 1) * yn1 = q * yn1 - yn1 := by rw [Int.sub_mul, Int.one_mul]
  have e0 : (q - 1) * yn0 = q * yn0 - yn0 := by rw [Int.sub_mul, Int.one_mul]
  have h1 : 1 ≤ q := by
    rcases (by omega : q = 0 ∨ 1 ≤ q) with hz | hz
    · subst hz
      rw [Int.zero_mul] at ht
      omega
    · exact hz
  have hb : (q - 1) * yn0 ≤ 4294967296 * 4294967295 := Int.mul_le_mul (by omega) (by omega) b0 (by decide)
  refine ⟨h1, ?_, e1, e0, by omega⟩
  rcases ht with ht | ht
  · have p1 : 4294967296 * yn1 ≤ q * yn1 := Int.mul_le_mul_of_nonneg_right ht (by omega)
    have p2 : 4294967296 * yn0 ≤ q * yn0 := Int.mul_le_mul_of_nonneg_right ht b0
    generalize q * yn1 = A at *
    generalize q * yn0 = C at *
    omega
  · generalize q * yn1 = A at *
    generalize q * yn0 = C at *
    omega
def Right (yn1 yn0 n u q : Int) : Prop := 0 ≤ q ∧ (q * yn1) * 4294967296 + q * yn0 ≤ n * 4294967296 + u ∧ n * 4294967296 + u < (q * yn1) * 4294967296 + q * yn0 + yn1 * 4294967296 + yn0
theorem trial_stop {yn1 yn0 n u q r : Int} (t : Trial yn1 yn0 n u q r) (h2 : ¬ 4294967296 * r + u < q * yn0) : Right yn1 yn0 n u q := by
  obtain ⟨q0, q1, r0, r1, e, up⟩ := t
  refine ⟨q0, ?_, up⟩
  generalize q * yn1 = A at *
  generalize q * yn0 = C at *
  omega
theorem trial_next {yn1 yn0 n u q r : Int} (h : Halves yn1 yn0 n u) (t : Trial yn1 yn0 n u q r) (ht : 4294967296 ≤ q ∨ 4294967296 * r + u < q * yn0) (hr : r + yn1 < 4294967296) : Trial yn1 yn0 n u (q - 1) (r + yn1) := by
  obtain ⟨h1, h2, e1, e0, hb⟩ := trial_down h t ht
  obtain ⟨a0, a1, b0, b1, u0, u1, n0, n1⟩ := h
  obtain ⟨q0, q1, r0, r1, e, up⟩ := t
  refine ⟨by omega, by omega, by omega, hr, ?_, ?_⟩
  · rw [e1]
    omega
  · rw [e1, e0]
    generalize q * yn1 = A at *
    generalize q * yn0 = C at *
    omega
theorem trial_last {yn1 yn0 n u q r : Int} (h : Halves yn1 yn0 n u) (t : Trial yn1 yn0 n u q r) (ht : 4294967296 ≤ q ∨ 4294967296 * r + u < q * yn0) (hr : 4294967296 ≤ r + yn1) : Right yn1 yn0 n u (q - 1) := by
  obtain ⟨h1, h2, e1, e0, hb⟩ := trial_down h t ht
  obtain ⟨a0, a1, b0, b1, u0, u1, n0, n1⟩ := h
  obtain ⟨q0, q1, r0, r1, e, up⟩ := t
  unfold Right
  rw [e1, e0]
  generalize q * yn1 = A at *
  generalize q * yn0 = C at *
  omega
theorem test_is {yn1 yn0 n u q r : Int} (h : Halves yn1 yn0 n u) (t : Trial yn1 yn0 n u q r) (hq : ¬ q ≥ 4294967296) :
    decide (IntKind.u64.wrap (q * yn0) > IntKind.u64.wrap (IntKind.u64.wrap (4294967296 * r) + u)) = decide (4294967296 * r + u < q * yn0) := by
  obtain ⟨a0, a1, b0, b1, u0, u1, n0, n1⟩ := h
  obtain ⟨q0, q1, r0, r1, e, up⟩ := t
  have hb : q * yn0 ≤ 4294967295 * 4294967295 := Int.mul_le_mul (by omega) (by omega) b0 (by decide)
  have hz : 0 ≤ q * yn0 := Int.mul_nonneg q0 b0
  rw [u64w_id (q * yn0) hz (by omega), u64w_id (4294967296 * r) (by omega) (by omega), u64w_id _ (by omega) (by omega)]
theorem trial_first {yn1 yn0 n u : Int} (h : Halves yn1 yn0 n u) : Trial yn1 yn0 n u (n / yn1) (n - n / yn1 * yn1) ∧ 0 ≤ n / yn1 * yn1 ∧ n / yn1 * yn1 ≤ n := by
  obtain ⟨a0, a1, b0, b1, u0, u1, n0, n1⟩ := h
  have p0 : 0 ≤ n / yn1 := Int.ediv_nonneg n0 (by omega)
  have p1 : n / yn1 * yn1 ≤ n := Int.ediv_mul_le n (by omega)
  have p2 : n < (n / yn1 + 1) * yn1 := Int.lt_ediv_add_one_mul_self n (by omega)
  have p3 : (n / yn1 + 1) * yn1 = n / yn1 * yn1 + yn1 := by rw [Int.add_mul, Int.one_mul]
  have p4 : 0 ≤ n / yn1 * yn1 := Int.mul_nonneg p0 (by omega)
  have p5 : 0 ≤ n / yn1 * yn0 := Int.mul_nonneg p0 b0
  refine ⟨⟨p0, ?_, by omega, by omega, by omega, ?_⟩, p4, p1⟩
  · rcases (by omega : n / yn1 ≤ 4294967297 ∨ 4294967298 ≤ n / yn1) with hle | hge
    · exact hle
    · exfalso
      have : 4294967298 * yn1 ≤ n / yn1 * yn1 := Int.mul_le_mul_of_nonneg_right hge (by omega)
      omega
  · generalize n / yn1 * yn1 = A at *
    generalize n / yn1 * yn0 = C at *
    omega
theorem rest_is {n u p : Int} (h0 : 0 ≤ n * 4294967296 + u - p) (h1 : n * 4294967296 + u - p < 18446744073709551616) :
    IntKind.u64.wrap (IntKind.u64.wrap (IntKind.u64.wrap (n * 4294967296) + u) - IntKind.u64.wrap p) = n * 4294967296 + u - p := by
  rw [u64w, u64w, u64w, u64w]
  omega
theorem times_y (q yn1 yn0 y : Int) (hy : y = yn1 * 4294967296 + yn0) : q * y = (q * yn1) * 4294967296 + q * yn0 := by
  rw [hy, Int.mul_add, ← Int.mul_assoc]
theorem l1_ok (y yn1 yn0 n u : Int) (s : Nat) (hy : y = yn1 * 4294967296 + yn0) (h : Halves yn1 yn0 n u) (q1 : Int) (hq1 : 0 ≤ q1) (hq2 : q1 < 4294967296) :
    ∀ (d : Nat) (q r : Int), Trial yn1 yn0 n u q r → 4294967296 ≤ r + d * 2147483648 →
      ∃ Q, Right yn1 yn0 n u Q ∧ Ev (fun k => bits_Div64.l1 k y (s : Int) yn1 yn0 u q1 r n q) (q1 * 4294967296 + Q, shr .u64 (n * 4294967296 + u - Q * y) (s : Int)) := by
  have fin : ∀ Q, Right yn1 yn0 n u Q → 0 ≤ n * 4294967296 + u - Q * y ∧ n * 4294967296 + u - Q * y < 18446744073709551616 ∧ Q < 4294967296 := by
    intro Q hQ
    have := digit_lt h hQ.2.1
    have e := times_y Q yn1 yn0 y hy
    obtain ⟨a0, a1, b0, b1, u0, u1, n0, n1⟩ := h
    obtain ⟨c0, c1, c2⟩ := hQ
    rw [e]
    generalize Q * yn1 = A at *
    generalize Q * yn0 = C at *
    omega
  intro d
  induction d with
  | zero =>
    intro q r t hd
    have := t.r1
    omega
  | succ d ih =>
    intro q r t hd
    have ht0 := t.q0
    have ht1 := t.q1
    have hr0 := t.r0
    have hr1 := t.r1
    have ha0 := h.a0
    have ha1 := h.a1
    have body : ∀ c : Bool, (c = true ↔ (4294967296 ≤ q ∨ 4294967296 * r + u < q * yn0)) →
        ∃ Q, Right yn1 yn0 n u Q ∧ Ev (fun k => bits_Div64.j4 k y (s : Int) yn1 yn0 u q1 r n q c) (q1 * 4294967296 + Q, shr .u64 (n * 4294967296 + u - Q * y) (s : Int)) := by
      intro c hc
      cases c with
      | true =>
        have ht := hc.1 rfl
        have hw : IntKind.u64.wrap (r + yn1) = r + yn1 := u64w_id _ (by omega) (by omega)
        have hd1 := (trial_down h t ht).1
        have hw2 : IntKind.u64.wrap (q - 1) = q - 1 := u64w_id _ (by omega) (by omega)
        by_cases hr : 4294967296 ≤ r + yn1
        · have hR := trial_last h t ht hr
          have hf := fin _ hR
          refine ⟨q - 1, hR, Ev_one fun k => ?_⟩
          simp only [bits_Div64.j4]
          rw [if_pos trivial, hw, if_pos (by omega), if_pos (by omega), hw2, rest_is hf.1 hf.2.1, u64w_id (q1 * 4294967296) (by omega) (by omega), u64w_id _ (by omega) (by omega)]
        · obtain ⟨Q, hQ, hE⟩ := ih (q - 1) (r + yn1) (trial_next h t ht (by omega)) (by omega)
          refine ⟨Q, hQ, Ev.step (fun k => ?_) hE⟩
          simp only [bits_Div64.j4]
          rw [if_pos trivial, hw, if_neg (by omega), hw2]
      | false =>
        have ht : ¬ (4294967296 ≤ q ∨ 4294967296 * r + u < q * yn0) := fun hh => Bool.noConfusion (hc.2 hh)
        have hR := trial_stop t (fun hh => ht (.inr hh))
        have hf := fin _ hR
        refine ⟨q, hR, Ev_one fun k => ?_⟩
        simp only [bits_Div64.j4]
        rw [if_neg (by decide), if_pos (by omega), rest_is hf.1 hf.2.1, u64w_id (q1 * 4294967296) (by omega) (by omega), u64w_id _ (by omega) (by omega)]
    by_cases hq : q ≥ 4294967296
    · obtain ⟨Q, hQ, hE⟩ := body true ⟨fun _ => .inl hq, fun _ => rfl⟩
      refine ⟨Q, hQ, Ev.step (fun k => ?_) hE⟩
      simp only [bits_Div64.l1]
      rw [if_pos hq]
    · obtain ⟨Q, hQ, hE⟩ := body (decide (4294967296 * r + u < q * yn0)) (by rw [decide_eq_true_iff]; omega)
      refine ⟨Q, hQ, Ev.step (fun k => ?_) hE⟩
      simp only [bits_Div64.l1]
      rw [if_neg hq, test_is h t hq]
theorem l0_ok (y yn1 yn0 n u v : Int) (s : Nat) (hy : y = yn1 * 4294967296 + yn0) (h : Halves yn1 yn0 n u) (hv0 : 0 ≤ v) (hv1 : v < 4294967296) :
    ∀ (d : Nat) (q r : Int), Trial yn1 yn0 n u q r → 4294967296 ≤ r + d * 2147483648 →
      ∃ Q1 Q0, 0 ≤ Q1 ∧ Q1 < 4294967296 ∧ 0 ≤ Q0 ∧ Q0 < 4294967296 ∧ 0 ≤ (n * 4294967296 + u - Q1 * y) * 4294967296 + v - Q0 * y ∧ (n * 4294967296 + u - Q1 * y) * 4294967296 + v - Q0 * y < y ∧
        Ev (fun k => bits_Div64.l0 k y (s : Int) yn1 yn0 n u v q r) (Q1 * 4294967296 + Q0, shr .u64 ((n * 4294967296 + u - Q1 * y) * 4294967296 + v - Q0 * y) (s : Int)) := by
  have fin : ∀ Q, Right yn1 yn0 n u Q → ∃ Q0, 0 ≤ Q ∧ Q < 4294967296 ∧ 0 ≤ Q0 ∧ Q0 < 4294967296 ∧ 0 ≤ (n * 4294967296 + u - Q * y) * 4294967296 + v - Q0 * y ∧ (n * 4294967296 + u - Q * y) * 4294967296 + v - Q0 * y < y ∧
        Ev (fun k => bits_Div64.j2 k y (s : Int) yn1 yn0 n u v Q) (Q * 4294967296 + Q0, shr .u64 ((n * 4294967296 + u - Q * y) * 4294967296 + v - Q0 * y) (s : Int)) := by
    intro Q hQ
    have hlt := digit_lt h hQ.2.1
    have e := times_y Q yn1 yn0 y hy
    obtain ⟨c0, c1, c2⟩ := hQ
    have ha0 := h.a0
    have ha1 := h.a1
    have hr0 : 0 ≤ n * 4294967296 + u - Q * y := by rw [e]; omega
    have hr1 : n * 4294967296 + u - Q * y < y := by
      rw [e, hy]
      generalize Q * yn1 = A at *
      generalize Q * yn0 = C at *
      omega
    have hw := rest_is (n := n) (u := u) (p := Q * y) hr0 (by have := h.b1; omega)
    generalize n * 4294967296 + u - Q * y = m at *
    have hH : Halves yn1 yn0 m v := ⟨h.a0, h.a1, h.b0, h.b1, hv0, hv1, hr0, by omega⟩
    obtain ⟨tr, tr0, tr1⟩ := trial_first hH
    obtain ⟨Q0, hQ0, hE⟩ := l1_ok y yn1 yn0 m v s hy hH Q c0 hlt 2 _ _ tr (by have := tr.r0; omega)
    have hlt0 := digit_lt hH hQ0.2.1
    have e0 := times_y Q0 yn1 yn0 y hy
    obtain ⟨g0, g1, g2⟩ := hQ0
    refine ⟨Q0, c0, hlt, g0, hlt0, by rw [e0]; omega, ?_, Ev.step (fun k => ?_) hE⟩
    · rw [e0, hy]
      generalize Q0 * yn1 = A at *
      generalize Q0 * yn0 = C at *
      omega
    · have hd : Int.tdiv m yn1 = m / yn1 := Int.tdiv_eq_ediv_of_nonneg hr0
      have hdr : 0 ≤ m / yn1 := tr.q0
      have hdr1 : m / yn1 ≤ 4294967297 := tr.q1
      simp only [bits_Div64.j2]
      rw [if_neg (by omega), hw, hd, u64w_id (m / yn1) hdr (by omega), u64w_id (m / yn1 * yn1) tr0 (by have := h.b1; omega), u64w_id (m - m / yn1 * yn1) (by omega) (by have := h.b1; omega)]
  intro d
  induction d with
  | zero =>
    intro q r t hd
    have := t.r1
    omega
  | succ d ih =>
    intro q r t hd
    have ht0 := t.q0
    have ht1 := t.q1
    have hr0 := t.r0
    have hr1 := t.r1
    have ha0 := h.a0
    have ha1 := h.a1
    have body : ∀ c : Bool, (c = true ↔ (4294967296 ≤ q ∨ 4294967296 * r + u < q * yn0)) →
        ∃ Q1 Q0, 0 ≤ Q1 ∧ Q1 < 4294967296 ∧ 0 ≤ Q0 ∧ Q0 < 4294967296 ∧ 0 ≤ (n * 4294967296 + u - Q1 * y) * 4294967296 + v - Q0 * y ∧ (n * 4294967296 + u - Q1 * y) * 4294967296 + v - Q0 * y < y ∧
        Ev (fun k => bits_Div64.j1 k y (s : Int) yn1 yn0 n u v q r c) (Q1 * 4294967296 + Q0, shr .u64 ((n * 4294967296 + u - Q1 * y) * 4294967296 + v - Q0 * y) (s : Int)) := by
      intro c hc
      cases c with
      | true =>
        have ht := hc.1 rfl
        have hw : IntKind.u64.wrap (r + yn1) = r + yn1 := u64w_id _ (by omega) (by omega)
        have hd1 := (trial_down h t ht).1
        have hw2 : IntKind.u64.wrap (q - 1) = q - 1 := u64w_id _ (by omega) (by omega)
        by_cases hr : 4294967296 ≤ r + yn1
        · obtain ⟨Q0, z0, z1, z2, z3, z4, z5, hE⟩ := fin _ (trial_last h t ht hr)
          refine ⟨q - 1, Q0, z0, z1, z2, z3, z4, z5, Ev.step (fun k => ?_) hE⟩
          simp only [bits_Div64.j1]
          rw [if_pos trivial, hw, if_pos (by omega), hw2]
        · obtain ⟨Q1, Q0, z0, z1, z2, z3, z4, z5, hE⟩ := ih (q - 1) (r + yn1) (trial_next h t ht (by omega)) (by omega)
          refine ⟨Q1, Q0, z0, z1, z2, z3, z4, z5, Ev.step (fun k => ?_) hE⟩
          simp only [bits_Div64.j1]
          rw [if_pos trivial, hw, if_neg (by omega), hw2]
      | false =>
        have ht : ¬ (4294967296 ≤ q ∨ 4294967296 * r + u < q * yn0) := fun hh => Bool.noConfusion (hc.2 hh)
        obtain ⟨Q0, z0, z1, z2, z3, z4, z5, hE⟩ := fin _ (trial_stop t (fun hh => ht (.inr hh)))
        refine ⟨q, Q0, z0, z1, z2, z3, z4, z5, Ev.step (fun k => ?_) hE⟩
        simp only [bits_Div64.j1]
        rw [if_neg (by decide)]
    by_cases hq : q ≥ 4294967296
    · obtain ⟨Q1, Q0, z0, z1, z2, z3, z4, z5, hE⟩ := body true ⟨fun _ => .inl hq, fun _ => rfl⟩
      refine ⟨Q1, Q0, z0, z1, z2, z3, z4, z5, Ev.step (fun k => ?_) hE⟩
      simp only [bits_Div64.l0]
      rw [if_pos hq]
    · obtain ⟨Q1, Q0, z0, z1, z2, z3, z4, z5, hE⟩ := body (decide (4294967296 * r + u < q * yn0)) (by rw [decide_eq_true_iff]; omega)
      refine ⟨Q1, Q0, z0, z1, z2, z3, z4, z5, Ev.step (fun k => ?_) hE⟩
      simp only [bits_Div64.l0]
      rw [if_neg hq, test_is h t hq]
theorem parts (hi lo y : Int) (s : Nat) (hs : s ≤ 63) (h0 : 0 ≤ hi) (h1 : hi < y) (l0 : 0 ≤ lo) (l1 : lo < 18446744073709551616) (y1 : y * 2 ^ s < 18446744073709551616) :
    ∃ n m : Int, Go.bits .or .u64 (shl .u64 hi (s : Int)) (shr .u64 lo (64 - (s : Int))) = n ∧ shl .u64 lo (s : Int) = m ∧ 0 ≤ n ∧ n < y * 2 ^ s ∧ 0 ≤ m ∧ m < 18446744073709551616 ∧ (hi * 18446744073709551616 + lo) * 2 ^ s = n * 18446744073709551616 + m := by
  have hp : (0 : Int) < 2 ^ s := Int.pow_pos (by decide)
  have hp2 : (0 : Int) < 2 ^ (64 - s) := Int.pow_pos (by decide)
  have hpp : (2 : Int) ^ (64 - s) * 2 ^ s = 18446744073709551616 := by rw [← Int.pow_add, show 64 - s + s = 64 by omega]; decide
  have e1 : shl .u64 hi (s : Int) = hi * 2 ^ s := by
    unfold shl
    rw [Int.toNat_natCast, Nat.min_eq_left (by show s ≤ 64; omega)]
    have a : 0 ≤ hi * 2 ^ s := Int.mul_nonneg h0 (Int.le_of_lt hp)
    have b : hi * 2 ^ s ≤ y * 2 ^ s := Int.mul_le_mul_of_nonneg_right (by omega) (Int.le_of_lt hp)
    exact u64w_id _ a (by omega)
  have e2 : shr .u64 lo (64 - (s : Int)) = lo / 2 ^ (64 - s) := by
    unfold shr
    rw [show (64 - (s : Int)).toNat = 64 - s by omega, Nat.min_eq_left (by show 64 - s ≤ 64; omega)]
  have e3 : shl .u64 lo (s : Int) = (lo * 2 ^ s) % 18446744073709551616 := by
    unfold shl
    rw [Int.toNat_natCast, Nat.min_eq_left (by show s ≤ 64; omega), u64w]
  have d0 : 0 ≤ lo / 2 ^ (64 - s) := Int.ediv_nonneg l0 (Int.le_of_lt hp2)
  have d1 : lo / 2 ^ (64 - s) < 2 ^ s := by
    refine Int.ediv_lt_of_lt_mul hp2 ?_
    rw [Int.mul_comm, hpp]
    exact l1
  have hx : 0 ≤ hi * 2 ^ s := Int.mul_nonneg h0 (Int.le_of_lt hp)
  have hx1 : hi * 2 ^ s + 2 ^ s ≤ y * 2 ^ s := by
    have : (hi + 1) * 2 ^ s ≤ y * 2 ^ s := Int.mul_le_mul_of_nonneg_right (by omega) (Int.le_of_lt hp)
    rw [Int.add_mul, Int.one_mul] at this
    exact this
  have e4 : Go.bits .or .u64 (hi * 2 ^ s) (lo / 2 ^ (64 - s)) = hi * 2 ^ s + lo / 2 ^ (64 - s) :=
    bits_join .u64 64 (by decide) wraps_u64 s _ _ hx (Int.mul_emod_left _ _) (by simpa using (by omega : hi * 2 ^ s < 18446744073709551616)) d0 d1 (by simpa using (by omega : lo / 2 ^ (64 - s) < 18446744073709551616))
  have e5 : lo * 2 ^ s = (lo / 2 ^ (64 - s)) * 18446744073709551616 + (lo * 2 ^ s) % 18446744073709551616 := by
    have a : lo = 2 ^ (64 - s) * (lo / 2 ^ (64 - s)) + lo % 2 ^ (64 - s) := (Int.mul_ediv_add_emod lo (2 ^ (64 - s))).symm
    have b : lo % 2 ^ (64 - s) < 2 ^ (64 - s) := Int.emod_lt_of_pos _ hp2
    have c : 0 ≤ lo % 2 ^ (64 - s) := Int.emod_nonneg _ (Int.ne_of_gt hp2)
    generalize lo / 2 ^ (64 - s) = t at *
    generalize lo % 2 ^ (64 - s) = g at *
    have e : lo * 2 ^ s = t * 18446744073709551616 + g * 2 ^ s := by rw [a, Int.add_mul, Int.mul_comm (2 ^ (64 - s)) t, Int.mul_assoc, hpp]
    have f0 : 0 ≤ g * 2 ^ s := Int.mul_nonneg c (Int.le_of_lt hp)
    have f1 : g * 2 ^ s < 18446744073709551616 := by rw [← hpp]; exact Int.mul_lt_mul_of_pos_right b hp
    generalize g * 2 ^ s = x at *
    generalize lo * 2 ^ s = z at *
    omega
  refine ⟨hi * 2 ^ s + lo / 2 ^ (64 - s), (lo * 2 ^ s) % 18446744073709551616, by rw [e1, e2, e4], e3, by omega, by omega, by omega, by omega, ?_⟩
  rw [Int.add_mul, Int.mul_right_comm]
  generalize hi * 2 ^ s = a at *
  generalize lo / 2 ^ (64 - s) = b at *
  generalize lo * 2 ^ s = c at *
  omega
theorem div64 (hi lo y : Int) (h0 : 0 ≤ hi) (h1 : hi < y) (l0 : 0 ≤ lo) (l1 : lo < 18446744073709551616) (y1 : y < 18446744073709551616) :
    Ev (fun k => bits_Div64.f k hi lo y) ((hi * 18446744073709551616 + lo) / y, (hi * 18446744073709551616 + lo) % y) := by
  unfold bits_Div64.f
  by_cases hz : hi = 0
  · refine Ev_all_k fun k => ?_
    rw [if_neg (by omega), if_neg (by omega), if_pos hz, hz, Int.zero_mul, Int.zero_add, Int.tdiv_eq_ediv_of_nonneg l0, Int.tmod_eq_emod_of_nonneg l0]
    have a : 0 ≤ lo / y := Int.ediv_nonneg l0 (by omega)
    have b : lo / y ≤ lo := Int.ediv_le_self _ l0
    rw [u64w_id _ a (by omega)]
  · obtain ⟨s, hs, ya, yb, hE⟩ := zeros64 y (by omega) y1
    obtain ⟨n, m, en, em, n0, n1, m0, m1, eU⟩ := parts hi lo y s hs h0 h1 l0 l1 yb
    have hp : (0 : Int) < 2 ^ s := Int.pow_pos (by decide)
    have ey : shl .u64 y (s : Int) = y * 2 ^ s := by
      unfold shl
      rw [Int.toNat_natCast, Nat.min_eq_left (by show s ≤ 64; omega)]
      exact u64w_id _ (by omega) yb
    have ws : IntKind.u64.wrap (s : Int) = s := u64w_id _ (by omega) (by omega)
    have ws2 : IntKind.u64.wrap (64 - (s : Int)) = 64 - s := u64w_id _ (by omega) (by omega)
    generalize hY : y * 2 ^ s = Y at *
    have hy : Y = Y / 4294967296 * 4294967296 + Y % 4294967296 := by omega
    have hH : Halves (Y / 4294967296) (Y % 4294967296) n (m / 4294967296) := ⟨by omega, by omega, by omega, by omega, by omega, by omega, n0, by omega⟩
    obtain ⟨tr, tr0, tr1⟩ := trial_first hH
    obtain ⟨Q1, Q0, a0, a1, b0, b1, r0, r1, hL⟩ := l0_ok Y _ _ n (m / 4294967296) (m % 4294967296) s hy hH (by omega) (by omega) 2 _ _ tr (by have := tr.r0; omega)
    have hd : Int.tdiv n (Y / 4294967296) = n / (Y / 4294967296) := Int.tdiv_eq_ediv_of_nonneg n0
    have hdr : 0 ≤ n / (Y / 4294967296) := tr.q0
    have hdr1 : n / (Y / 4294967296) ≤ 4294967297 := tr.q1
    have key : ∀ k, bits_Div64.f (k + 1) hi lo y = bits_Div64.l0 (k + 1) Y (s : Int) (Y / 4294967296) (Y % 4294967296) n (m / 4294967296) (m % 4294967296) (n / (Y / 4294967296)) (n - n / (Y / 4294967296) * (Y / 4294967296)) := by
      intro k
      unfold bits_Div64.f
      rw [if_neg (by omega), if_neg (by omega), if_neg hz, hE, Option.bind_some, ws, ws2, if_pos (by omega), if_pos (by omega), ey, if_neg (by omega), en, em, and32 Y (by omega) yb, and32 m m0 m1, hd, u64w_id (n / (Y / 4294967296)) hdr (by omega),
        u64w_id (n / (Y / 4294967296) * (Y / 4294967296)) tr0 (by omega), u64w_id (n - n / (Y / 4294967296) * (Y / 4294967296)) (by omega) (by omega)]
    have fin : (hi * 18446744073709551616 + lo) / y = Q1 * 4294967296 + Q0 ∧ (hi * 18446744073709551616 + lo) % y = shr .u64 ((n * 4294967296 + m / 4294967296 - Q1 * Y) * 4294967296 + m % 4294967296 - Q0 * Y) (s : Int) := by
      have e : (hi * 18446744073709551616 + lo) * 2 ^ s = (Q1 * 4294967296 + Q0) * Y + ((n * 4294967296 + m / 4294967296 - Q1 * Y) * 4294967296 + m % 4294967296 - Q0 * Y) := by
        rw [eU, Int.add_mul, Int.mul_right_comm]
        generalize Q1 * Y = a at *
        generalize Q0 * Y = b at *
        omega
      generalize (n * 4294967296 + m / 4294967296 - Q1 * Y) * 4294967296 + m % 4294967296 - Q0 * Y = R at *
      generalize Q1 * 4294967296 + Q0 = Q at *
      generalize hi * 18446744073709551616 + lo = N at *
      have e2 : R = (N - Q * y) * 2 ^ s := by
        rw [Int.sub_mul, e, ← hY, Int.mul_assoc]
        omega
      have e3 : shr .u64 R (s : Int) = N - Q * y := by
        unfold shr
        rw [Int.toNat_natCast, Nat.min_eq_left (by show s ≤ 64; omega), e2, Int.mul_ediv_cancel _ (Int.ne_of_gt hp)]
      have f0 : 0 ≤ N - Q * y := by
        rcases (by omega : 0 ≤ N - Q * y ∨ N - Q * y < 0) with g | g
        · exact g
        · have := Int.mul_neg_of_neg_of_pos g hp
          omega
      have f1 : N - Q * y < y := by
        rcases (by omega : N - Q * y < y ∨ y ≤ N - Q * y) with g | g
        · exact g
        · have := Int.mul_le_mul_of_nonneg_right g (Int.le_of_lt hp)
          omega
      rw [e3]
      have hN : N = (N - Q * y) + y * Q := by rw [Int.mul_comm y Q]; omega
      generalize N - Q * y = z at *
      subst hN
      rw [Int.add_mul_ediv_left _ _ (by omega), Int.ediv_eq_zero_of_lt f0 f1, Int.zero_add, Int.add_mul_emod_self_left, Int.emod_eq_of_lt f0 f1]
      exact ⟨rfl, rfl⟩
    rw [fin.1, fin.2]
    obtain ⟨K, hK⟩ := hL
    refine ⟨K + 1, fun k hk => ?_⟩
    obtain ⟨j, rfl⟩ : ∃ j, k = j + 1 := ⟨k - 1, by omega⟩
    have := key j
    unfold bits_Div64.f at this
    exact this.trans (hK (j + 1) (by omega))
def mdOk (a b c : Int) : Prop := (0 ≤ a ∧ a ≤ 1000000000000000) ∧ (0 ≤ b ∧ b ≤ 1000000000000000) ∧ (1 ≤ c ∧ c ≤ 1000000000000000) ∧ a * b / c ≤ 1000000000000000
instance (a b c : Int) : Decidable (mdOk a b c) := by unfold mdOk; exact inferInstance
def mdR (a b c : Int) : Int × Int × Bool := if mdOk a b c then (a * b / c, a * b % c, true) else (0, 0, false)
theorem md_no {a b c : Int} (h : ¬ mdOk a b c) : mdR a b c = (0, 0, false) := if_neg h
theorem md_yes {a b c : Int} (h : mdOk a b c) : mdR a b c = (a * b / c, a * b % c, true) := if_pos h
theorem gates {ρ : Type} {A B C : Prop} [Decidable A] [Decidable B] [Decidable C] (f : Nat → Bool → Option ρ) (r : ρ) (hb : ¬ (A ∧ B ∧ C) → Ev (fun k => f k true) r) (hg : A → B → C → Ev (fun k => f k false) r) :
    Ev (fun k => if decide A = true then (if decide B = true then f k (!decide C) else f k true) else f k true) r := by
  by_cases ha : A
  · by_cases hb2 : B
    · by_cases hc : C
      · exact Ev.congr (fun k => by rw [if_pos (decide_eq_true ha), if_pos (decide_eq_true hb2), decide_eq_true hc]; rfl) (hg ha hb2 hc)
      · exact Ev.congr (fun k => by rw [if_pos (decide_eq_true ha), if_pos (decide_eq_true hb2), decide_eq_false hc]; rfl) (hb fun h => hc h.2.2)
    · exact Ev.congr (fun k => by rw [if_pos (decide_eq_true ha), if_neg (by rw [decide_eq_false hb2]; decide)]) (hb fun h => hb2 h.2.1)
  · exact Ev.congr (fun k => by rw [if_neg (by rw [decide_eq_false ha]; decide)]) (hb fun h => ha h.1)
theorem mulDiv_i (a b c : Int) : Ev (fun k => impl_MulDiv.f k a b c) (mdR a b c) := by
  unfold impl_MulDiv.f
  simp only [in_i, Option.bind_some]
  have bad : ∀ h : ¬ mdOk a b c, Ev (fun k => impl_MulDiv.j0 k a b c true) (mdR a b c) := fun h => by
    rw [md_no h]
    exact Ev_one fun k => by simp only [impl_MulDiv.j0]; rw [if_pos trivial]
  refine gates (fun k z => impl_MulDiv.j0 k a b c z) _ (fun h => bad fun g => h ⟨g.1, g.2.1, g.2.2.1⟩) fun ha hb hc => ?_
  · · ·
        obtain ⟨a0, a1⟩ := ha
        obtain ⟨b0, b1⟩ := hb
        obtain ⟨c0, c1⟩ := hc
        have hp0 : 0 ≤ a * b := Int.mul_nonneg a0 b0
        have hp1 : a * b ≤ 1000000000000000 * 1000000000000000 := Int.mul_le_mul a1 b1 b0 (by decide)
        have hm : bits_Mul64.f a b = some (a * b / 18446744073709551616, a * b % 18446744073709551616) := by
          unfold bits_Mul64.f
          rw [mul64 a b a0 (by omega) b0 (by omega), u64w]
        have e : ∀ k, impl_MulDiv.j0 (k + 1) a b c false = if a * b / 18446744073709551616 ≥ c then some (0, 0, false) else (bits_Div64.f k (a * b / 18446744073709551616) (a * b % 18446744073709551616) c).bind fun z => (if z.1 > 1000000000000000 then (some (0, 0, false)) else (some (wrap64 z.1, wrap64 z.2, true))) := by
          intro k
          simp only [impl_MulDiv.j0]
          rw [if_neg (by decide), u64w_id a a0 (by omega), u64w_id b b0 (by omega), u64w_id c (by omega) (by omega), hm, Option.bind_some]
        have hq0 : 0 ≤ a * b / c := Int.ediv_nonneg hp0 (by omega)
        have hr0 : 0 ≤ a * b % c := Int.emod_nonneg _ (by omega)
        have hr1 : a * b % c < c := Int.emod_lt_of_pos _ (by omega)
        refine Ev.step e ?_
        by_cases hh : a * b / 18446744073709551616 ≥ c
        · have hno : ¬ mdOk a b c := fun h => by
            have h4 := h.2.2.2
            have h5 : 18446744073709551616 ≤ a * b / c := by
              rw [Int.le_ediv_iff_mul_le (by omega)]
              omega
            omega
          rw [md_no hno]
          exact Ev_all_k fun k => if_pos hh
        · refine Ev.congr (fun k => if_neg hh) ?_
          have hd := div64 (a * b / 18446744073709551616) (a * b % 18446744073709551616) c (by omega) (by omega) (by omega) (by omega) (by omega)
          rw [show a * b / 18446744073709551616 * 18446744073709551616 + a * b % 18446744073709551616 = a * b by omega] at hd
          refine Ev_bind hd (Ev_all_k fun k => ?_)
          by_cases hq : a * b / c ≤ 1000000000000000
          · rw [md_yes ⟨⟨a0, a1⟩, ⟨b0, b1⟩, ⟨c0, c1⟩, hq⟩, if_neg (by show ¬ a * b / c > _; omega)]
            show some (wrap64 (a * b / c), wrap64 (a * b % c), true) = _
            rw [w64_id _ (by omega) (by omega), w64_id _ (by omega) (by omega)]
          · rw [md_no (fun h => hq h.2.2.2), if_pos (by show a * b / c > _; omega)]
theorem some_s (x lo : Int) : spec_l1Some.f x lo = some (decide (lo ≤ x ∧ x ≤ 1000000000000000)) := by
  unfold spec_l1Some.f
  rw [in_s]
  rfl
theorem bit_is (a : Int) (i : Nat) (h0 : 0 ≤ a) (h1 : a ≤ 1000000000000000) (hi : i ≤ 63) : Go.bits .and .i64 (shr .i64 a (i : Int)) 1 = a / 2 ^ i % 2 := by
  have e : shr .i64 a (i : Int) = a / 2 ^ i := by
    unfold shr
    rw [Int.toNat_natCast, Nat.min_eq_left (by show i ≤ 64; omega)]
  rw [e]
  have hp : (0 : Int) < 2 ^ i := Int.pow_pos (by decide)
  have d0 : 0 ≤ a / 2 ^ i := Int.ediv_nonneg h0 (Int.le_of_lt hp)
  have d1 : a / 2 ^ i ≤ a := Int.ediv_le_self _ h0
  exact bits_mask .i64 63 (by decide) (fun n a b => by rw [IntKind.wrap_i64]; have : (2 : Int) ^ 63 = 9223372036854775808 := by decide
                                                       omega) 1 (by decide) _ d0 (by have : (2 : Int) ^ 63 = 9223372036854775808 := by decide
                                                                                     omega)
theorem sl0 (a b c : Int) (a0 : 0 ≤ a) (a1 : a ≤ 1000000000000000) (b0 : 0 ≤ b) (b1 : b ≤ 1000000000000000) (c0 : 1 ≤ c) (c1 : c ≤ 1000000000000000) :
    ∀ (m : Nat) (q r : Int), m ≤ 51 → 0 ≤ r → r < c → 0 ≤ q → q ≤ 1000000000000000 → q * c + r = a / 2 ^ m * b →
      Ev (fun k => spec_MulDiv.l0 k a b c q r ((m : Int) - 1)) (if a * b / c ≤ 1000000000000000 then (a * b / c, a * b % c, true) else (0, 0, false)) := by
  intro m
  induction m with
  | zero =>
    intro q r _ r0 r1 q0 q1 e
    rw [show a / 2 ^ 0 = a by rw [Int.pow_zero, Int.ediv_one]] at e
    have hN : a * b = r + c * q := by rw [← e, Int.mul_comm c q]; omega
    have hd : a * b / c = q := by rw [hN, Int.add_mul_ediv_left _ _ (by omega), Int.ediv_eq_zero_of_lt r0 r1, Int.zero_add]
    have hm : a * b % c = r := by rw [hN, Int.add_mul_emod_self_left, Int.emod_eq_of_lt r0 r1]
    rw [hd, hm, if_pos q1]
    exact Ev_one fun k => by simp only [spec_MulDiv.l0]; rw [if_neg (by omega)]
  | succ m ih =>
    intro q r hm r0 r1 q0 q1 e
    have hp : (0 : Int) < 2 ^ m := Int.pow_pos (by decide)
    have hA : a / 2 ^ (m + 1) = a / 2 ^ m / 2 := by rw [Int.pow_succ, Int.ediv_ediv_of_nonneg (Int.le_of_lt hp)]
    have d0 : 0 ≤ a / 2 ^ m := Int.ediv_nonneg a0 (Int.le_of_lt hp)
    have d1 : a / 2 ^ m ≤ a := Int.ediv_le_self _ a0
    rw [hA] at e
    have hbit := bit_is a m a0 a1 (by omega)
    -- too great a quotient stays too great
    have big : ∀ q' r' : Int, q' * c + r' = a / 2 ^ m * b → 0 ≤ r' → 1000000000000000 < q' → ¬ a * b / c ≤ 1000000000000000 := by
      intro q' r' e' r0' hq' hle
      have h1 : a / 2 ^ m * b ≤ a * b := Int.mul_le_mul_of_nonneg_right d1 b0
      have h2 : q' ≤ a * b / c := by
        rw [Int.le_ediv_iff_mul_le (by omega)]
        omega
      omega
    -- the doubled pair
    obtain ⟨q2, r2, hw, z0, z1, y0, y1, e2⟩ : ∃ q2 r2 : Int, (∀ k, spec_MulDiv.l0 (k + 1) a b c q r ((m + 1 : Nat) - 1 : Int) = spec_MulDiv.j2 k a b c q2 r2 (m : Int)) ∧ 0 ≤ r2 ∧ r2 < c ∧ 0 ≤ q2 ∧ q2 ≤ 2000000000000001 ∧ q2 * c + r2 = 2 * (a / 2 ^ m / 2 * b) := by
      have w1 : wrap64 (2 * r) = 2 * r := w64_id _ (by omega) (by omega)
      have w2 : wrap64 (2 * q) = 2 * q := w64_id _ (by omega) (by omega)
      have hi : (((m + 1 : Nat) : Int) - 1) = (m : Int) := by omega
      by_cases h : 2 * r ≥ c
      · refine ⟨2 * q + 1, 2 * r - c, fun k => ?_, by omega, by omega, by omega, by omega, ?_⟩
        · rw [hi]
          simp only [spec_MulDiv.l0]
          rw [if_pos (by omega), w1, if_pos h, w2, w64_id (2 * q + 1) (by omega) (by omega), w64_id (2 * r - c) (by omega) (by omega)]
        · rw [Int.add_mul, Int.one_mul, Int.mul_assoc, ← e]
          omega
      · refine ⟨2 * q, 2 * r, fun k => ?_, by omega, by omega, by omega, by omega, ?_⟩
        · rw [hi]
          simp only [spec_MulDiv.l0]
          rw [if_pos (by omega), w1, if_neg h, w2]
        · rw [Int.mul_assoc, ← e]
          omega
    refine Ev.step hw ?_
    have hodd : a / 2 ^ m * b = 2 * (a / 2 ^ m / 2 * b) + a / 2 ^ m % 2 * b := by
      have : a / 2 ^ m = 2 * (a / 2 ^ m / 2) + a / 2 ^ m % 2 := by omega
      generalize a / 2 ^ m = x at *
      conv => lhs; rw [this, Int.add_mul, Int.mul_assoc]
    have go : ∀ q3 r3 : Int, 0 ≤ r3 → r3 < c → 0 ≤ q3 → q3 * c + r3 = a / 2 ^ m * b → (f : Nat → Option (Int × Int × Bool)) → (∀ k, f k = if q3 > 1000000000000000 then some (0, 0, false) else spec_MulDiv.l0 k a b c q3 r3 ((m : Int) - 1)) → Ev f (if a * b / c ≤ 1000000000000000 then (a * b / c, a * b % c, true) else (0, 0, false)) := by
      intro q3 r3 x0 x1 x2 e3 f hf
      by_cases hq : q3 > 1000000000000000
      · rw [if_neg (big q3 r3 e3 x0 (by omega))]
        exact Ev_all_k fun k => by rw [hf, if_pos hq]
      · exact Ev.congr (fun k => by rw [hf, if_neg hq]) (ih q3 r3 (by omega) x0 x1 x2 (by omega) e3)
    have wm : wrap64 ((m : Int) - 1) = (m : Int) - 1 := w64_id _ (by omega) (by omega)
    by_cases hb : a / 2 ^ m % 2 = 1
    · have t0 : 0 ≤ b / c := Int.ediv_nonneg b0 (by omega)
      have t1 : b / c ≤ b := Int.ediv_le_self _ b0
      have t2 : 0 ≤ b % c := Int.emod_nonneg _ (by omega)
      have t3 : b % c < c := Int.emod_lt_of_pos _ (by omega)
      have t4 : b / c * c + b % c = b := by have := Int.mul_ediv_add_emod b c; rw [Int.mul_comm]; exact this
      have td : Int.tdiv b c = b / c := Int.tdiv_eq_ediv_of_nonneg b0
      have tm : Int.tmod b c = b % c := Int.tmod_eq_emod_of_nonneg b0
      rw [hb, Int.one_mul] at hodd
      have w1 : wrap64 (r2 + b % c) = r2 + b % c := w64_id _ (by omega) (by omega)
      have w2 : wrap64 (b / c) = b / c := w64_id _ (by omega) (by omega)
      have w3 : wrap64 (q2 + b / c) = q2 + b / c := w64_id _ (by omega) (by omega)
      have w4 : wrap64 (q2 + b / c + 1) = q2 + b / c + 1 := w64_id _ (by omega) (by omega)
      by_cases h : r2 + b % c ≥ c
      · have w5 : wrap64 (r2 + b % c - c) = r2 + b % c - c := w64_id _ (by omega) (by omega)
        refine Ev.step (fun k => rfl) (go (q2 + b / c + 1) (r2 + b % c - c) (by omega) (by omega) (by omega) ?_ _ fun k => ?_)
        · rw [Int.add_mul, Int.add_mul, Int.one_mul, hodd, ← e2]
          omega
        · simp only [spec_MulDiv.j2]
          rw [if_pos (by omega), hbit, if_pos hb, if_neg (by omega), tm, td, w1, if_pos h, w2, w3, w4, w5, wm]
      · refine Ev.step (fun k => rfl) (go (q2 + b / c) (r2 + b % c) (by omega) (by omega) (by omega) ?_ _ fun k => ?_)
        · rw [Int.add_mul, hodd, ← e2]
          omega
        · simp only [spec_MulDiv.j2]
          rw [if_pos (by omega), hbit, if_pos hb, if_neg (by omega), tm, td, w1, if_neg h, w2, w3, wm]
    · have hb0 : a / 2 ^ m % 2 = 0 := by omega
      rw [hb0, Int.zero_mul, Int.add_zero] at hodd
      refine Ev.step (fun k => rfl) (go q2 r2 z0 z1 y0 (by rw [e2, hodd]) _ fun k => ?_)
      simp only [spec_MulDiv.j2]
      rw [if_pos (by omega), hbit, if_neg hb, wm]
theorem mulDiv_s (a b c : Int) : Ev (fun k => spec_MulDiv.f k a b c) (mdR a b c) := by
  unfold spec_MulDiv.f
  simp only [some_s, Option.bind_some]
  have bad : ∀ h : ¬ mdOk a b c, Ev (fun k => spec_MulDiv.j0 k a b c true) (mdR a b c) := fun h => by
    rw [md_no h]
    exact Ev_one fun k => by simp only [spec_MulDiv.j0]; rw [if_pos trivial]
  refine gates (fun k z => spec_MulDiv.j0 k a b c z) _ (fun h => bad fun g => h ⟨g.1, g.2.1, g.2.2.1⟩) fun ha hb hc => ?_
  · · ·
        refine Ev.step (f := fun k => spec_MulDiv.l0 k a b c 0 0 50) (fun k => by simp only [spec_MulDiv.j0]; rw [if_neg (by decide)]) ?_
        have h := sl0 a b c ha.1 ha.2 hb.1 hb.2 hc.1 hc.2 51 0 0 (Nat.le_refl _) (by omega) (by omega) (by omega) (by omega) (by
          rw [show a / 2 ^ 51 = 0 from Int.ediv_eq_zero_of_lt ha.1 (by have : (2 : Int) ^ 51 = 2251799813685248 := by decide
                                                                       omega)]
          simp)
        have e : mdR a b c = if a * b / c ≤ 1000000000000000 then (a * b / c, a * b % c, true) else (0, 0, false) := by
          by_cases hq : a * b / c ≤ 1000000000000000
          · rw [md_yes ⟨ha, hb, hc, hq⟩, if_pos hq]
          · rw [md_no (fun h => hq h.2.2.2), if_neg hq]
        rw [e]
        exact h
end Go.Proofs.Ytpnejhelandclaa.A2
namespace Go.Proofs.Ytpnejhelandclaa.W2
open Go Go.RowKit Go.Proofs.Ytpnejhelandclaa.P Go.Proofs.YtpnejhelandclaaW.PrintWords Go.Proofs.YtpnejhelandclaaW.PrintLast Go.Proofs.Ytpnejhelandclaa.EV Go.Proofs.Ytpnejhelandclaa.I1 Go.Proofs.Ytpnejhelandclaa.A2 Go.Proofs.Ytpnejhelandclaa.TI Go.Proofs.Ytpnejhelandclaa.W1
def InT (t : Int) : Prop := 0 ≤ t ∧ t ≤ 1000000000000000
instance (t : Int) : Decidable (InT t) := by unfold InT; exact inferInstance
open Classical in
noncomputable def quota (t : Int) (l : List Int) (i : Int) : Int × Int × Bool := if OkW l ∧ InT t ∧ 0 ≤ i ∧ i < l.length then mdR t (rd l i) l.sum else (0, 0, false)
theorem shareable_i (t : Int) (l : List Int) : Ev (fun k => impl_shareable.f k t l) (okW l && decide (InT t)) := by
  unfold impl_shareable.f
  refine Ev_bind (weightsOk_i l) (Ev_all_k fun k => ?_)
  cases okW l with
  | true => rw [if_pos rfl, in_i, Option.bind_some]; rfl
  | false => rw [if_neg (by decide)]; rfl
theorem quota_no {t : Int} {l : List Int} {i : Int} (h : ¬ (OkW l ∧ InT t ∧ 0 ≤ i ∧ i < l.length)) : quota t l i = (0, 0, false) := if_neg h
theorem quota_yes {t : Int} {l : List Int} {i : Int} (h : OkW l ∧ InT t ∧ 0 ≤ i ∧ i < l.length) : quota t l i = mdR t (rd l i) l.sum := if_pos h
theorem quota_i (t : Int) (l : List Int) (i : Int) : Ev (fun k => impl_ShareQuota.f k t l i) (quota t l i) := by
  unfold impl_ShareQuota.f
  refine Ev_bind (shareable_i t l) ?_
  by_cases h : OkW l
  · by_cases ht : InT t
    · have e : (okW l && decide (InT t)) = true := by rw [(okW_iff l).2 h, decide_eq_true ht]; rfl
      have hl := h.1
      refine Ev.congr (f := fun k => impl_ShareQuota.j0 k t l i (!decide (0 ≤ i ∧ i ≤ (l.length : Int) - 1))) (fun k => by rw [if_pos e, in_i, Option.bind_some, w64_in _ (by omega) (by omega)]) ?_
      by_cases hi : 0 ≤ i ∧ i ≤ (l.length : Int) - 1
      · rw [quota_yes ⟨h, ht, hi.1, by omega⟩]
        refine Ev.step (f := fun k => (impl_sumOf.f k l).bind fun t154 => ((impl_MulDiv.f k t (rd l i) t154).bind fun bt155 => (some (bt155.1, bt155.2.1, bt155.2.2)))) (fun k => by
          simp only [impl_ShareQuota.j0]
          rw [if_neg (by rw [decide_eq_true hi]; decide), if_pos hi.1, if_pos (by omega)]) ?_
        exact Ev_bind (all_i h.few) (Ev_bind (mulDiv_i _ _ _) (Ev_all_k fun k => rfl))
      · rw [quota_no fun g => hi ⟨g.2.2.1, by omega⟩]
        exact Ev_one fun k => by
          simp only [impl_ShareQuota.j0]
          rw [if_pos (by rw [decide_eq_false hi]; rfl)]
    · rw [quota_no fun g => ht g.2.1]
      refine Ev.congr (f := fun k => impl_ShareQuota.j0 k t l i true) (fun k => by rw [if_neg (by rw [decide_eq_false ht, Bool.and_false]; decide)]) ?_
      exact Ev_one fun k => by
        simp only [impl_ShareQuota.j0]
        rw [if_pos trivial]
  · rw [quota_no fun g => h g.1]
    refine Ev.congr (f := fun k => impl_ShareQuota.j0 k t l i true) (fun k => by rw [if_neg (by rw [okW_no h, Bool.false_and]; decide)]) ?_
    exact Ev_one fun k => by
      simp only [impl_ShareQuota.j0]
      rw [if_pos trivial]
theorem quota_s (t : Int) (l : List Int) (i : Int) : Ev (fun k => spec_ShareQuota.f k t l i) (quota t l i) := by
  unfold spec_ShareQuota.f
  refine Ev_bind (weightsOk_s l) ?_
  by_cases h : OkW l
  · by_cases ht : InT t
    · have hl := h.1
      refine Ev.congr (f := fun k => spec_ShareQuota.j0 k t l i (!decide (0 ≤ i ∧ i ≤ (l.length : Int) - 1))) (fun k => by rw [if_pos ((okW_iff l).2 h), some_s1, Option.bind_some, if_pos (decide_eq_true (show 0 ≤ t ∧ t ≤ 1000000000000000 from ht)), in_s, Option.bind_some, w64_in _ (by omega) (by omega)]) ?_
      by_cases hi : 0 ≤ i ∧ i ≤ (l.length : Int) - 1
      · rw [quota_yes ⟨h, ht, hi.1, by omega⟩]
        refine Ev.step (f := fun k => (spec_l2All.f k l).bind fun t136 => ((spec_MulDiv.f k t (rd l i) t136).bind fun bt137 => (some (bt137.1, bt137.2.1, bt137.2.2)))) (fun k => by
          simp only [spec_ShareQuota.j0]
          rw [if_neg (by rw [decide_eq_true hi]; decide), if_pos hi.1, if_pos (by omega)]) ?_
        exact Ev_bind (all_s h.few) (Ev_bind (mulDiv_s _ _ _) (Ev_all_k fun k => rfl))
      · rw [quota_no fun g => hi ⟨g.2.2.1, by omega⟩]
        exact Ev_one fun k => by
          simp only [spec_ShareQuota.j0]
          rw [if_pos (by rw [decide_eq_false hi]; rfl)]
    · rw [quota_no fun g => ht g.2.1]
      refine Ev.congr (f := fun k => spec_ShareQuota.j0 k t l i true) (fun k => by rw [if_pos ((okW_iff l).2 h), some_s1, Option.bind_some, if_neg (by unfold InT at ht; rw [decide_eq_false ht]; decide)]) ?_
      exact Ev_one fun k => by
        simp only [spec_ShareQuota.j0]
        rw [if_pos trivial]
  · rw [quota_no fun g => h g.1]
    refine Ev.congr (f := fun k => spec_ShareQuota.j0 k t l i true) (fun k => by rw [if_neg (by rw [okW_no h]; decide)]) ?_
    exact Ev_one fun k => by
      simp only [spec_ShareQuota.j0]
      rw [if_pos trivial]
end Go.Proofs.Ytpnejhelandclaa.W2
namespace Go.Proofs.Ytpnejhelandclaa.S1
section
variable {α : Type} (lt : α → α → Prop) [DecidableRel lt]
def mrg : List α → List α → List α
  | [], ys => ys
  | x :: xs, [] => x :: xs
  | x :: xs, y :: ys => if lt y x then y :: mrg (x :: xs) ys else x :: mrg xs (y :: ys)
termination_by xs ys => xs.length + ys.length
theorem mrg_nil (xs : List α) : mrg lt xs [] = xs := by cases xs <;> simp [mrg]
theorem nil_mrg (ys : List α) : mrg lt [] ys = ys := by simp [mrg]
theorem mrg_perm : ∀ (xs ys : List α), (mrg lt xs ys).Perm (xs ++ ys)
  | [], ys => by rw [nil_mrg]; exact List.Perm.refl _
  | x :: xs, [] => by rw [mrg_nil, List.append_nil]
  | x :: xs, y :: ys => by
    rw [mrg]
    split
    · refine ((mrg_perm (x :: xs) ys).cons y).trans ?_
      exact (List.perm_middle (l₁ := x :: xs) (l₂ := ys) (a := y)).symm
    · exact (mrg_perm xs (y :: ys)).cons x
termination_by xs ys => xs.length + ys.length
theorem mrg_halves : ∀ (A1 A2 B1 B2 : List α), (∀ x ∈ A1, ∀ y ∈ B2, ¬lt y x) → (∀ y ∈ B1, ∀ x ∈ A2, lt y x) → mrg lt (A1 ++ A2) (B1 ++ B2) = mrg lt A1 B1 ++ mrg lt A2 B2
  | [], A2, [], B2, _, _ => by simp [mrg]
  | [], [], y :: ys, B2, _, _ => by simp [mrg]
  | [], x :: xs, y :: ys, B2, h1, h2 => by
    have ih := mrg_halves [] (x :: xs) ys B2 (fun a ha => by cases ha) fun b hb a ha => h2 b (List.mem_cons_of_mem _ hb) a ha
    simp only [List.nil_append, List.cons_append, nil_mrg] at ih ⊢
    rw [mrg, if_pos (h2 y (List.mem_cons_self ..) x (List.mem_cons_self ..)), ih]
  | x :: xs, A2, [], [], _, _ => by simp [mrg_nil]
  | x :: xs, A2, [], y :: ys, h1, h2 => by
    have ih := mrg_halves xs A2 [] (y :: ys) (fun a ha => h1 a (List.mem_cons_of_mem _ ha)) fun b hb => by cases hb
    simp only [List.nil_append, List.cons_append, mrg_nil] at ih ⊢
    rw [mrg, if_neg (h1 x (List.mem_cons_self ..) y (List.mem_cons_self ..)), ih]
  | x :: xs, A2, y :: ys, B2, h1, h2 => by
    simp only [List.cons_append]
    by_cases h : lt y x
    · have ih := mrg_halves (x :: xs) A2 ys B2 h1 fun b hb => h2 b (List.mem_cons_of_mem _ hb)
      simp only [List.cons_append] at ih
      rw [mrg, if_pos h, ih, mrg, if_pos h, List.cons_append]
    · have ih := mrg_halves xs A2 (y :: ys) B2 (fun a ha => h1 a (List.mem_cons_of_mem _ ha)) h2
      simp only [List.cons_append] at ih
      rw [mrg, if_neg h, ih, mrg, if_neg h, List.cons_append]
termination_by A1 _ B1 _ => A1.length + B1.length
theorem mrg_pw (hT : ∀ {x y z : α}, lt x y → lt y z → lt x z) : ∀ (xs ys : List α), xs.Pairwise lt → ys.Pairwise lt → (∀ x ∈ xs, ∀ y ∈ ys, lt y x ∨ lt x y) → (mrg lt xs ys).Pairwise lt
  | [], ys, _, h, _ => by rw [nil_mrg]; exact h
  | x :: xs, [], h, _, _ => by rw [mrg_nil]; exact h
  | x :: xs, y :: ys, hx, hy, hk => by
    have hx2 := List.pairwise_cons.1 hx
    have hy2 := List.pairwise_cons.1 hy
    rw [mrg]
    split
    · rename_i hl
      refine List.pairwise_cons.2 ⟨fun z hz => ?_, mrg_pw hT (x :: xs) ys hx hy2.2 fun a ha b hb => hk a ha b (List.mem_cons_of_mem _ hb)⟩
      rcases List.mem_append.1 ((mrg_perm lt (x :: xs) ys).mem_iff.1 hz) with h | h
      · rcases List.mem_cons.1 h with e | h
        · rw [e]; exact hl
        · exact hT hl (hx2.1 z h)
      · exact hy2.1 z h
    · rename_i hl
      have hl2 : lt x y := (hk x (List.mem_cons_self ..) y (List.mem_cons_self ..)).resolve_left hl
      refine List.pairwise_cons.2 ⟨fun z hz => ?_, mrg_pw hT xs (y :: ys) hx2.2 hy fun a ha b hb => hk a (List.mem_cons_of_mem _ ha) b hb⟩
      rcases List.mem_append.1 ((mrg_perm lt xs (y :: ys)).mem_iff.1 hz) with h | h
      · exact hx2.1 z h
      · rcases List.mem_cons.1 h with e | h
        · rw [e]; exact hl2
        · exact hT hl2 (hy2.1 z h)
termination_by xs ys => xs.length + ys.length
end
end Go.Proofs.Ytpnejhelandclaa.S1
namespace Go.Proofs.Ytpnejhelandclaa.S2
open Go.Proofs.Ytpnejhelandclaa.S1
section
variable {α : Type} [Inhabited α]
def swap1 (l : List α) (i j : Nat) : List α := (l.set i (l.getD j default)).set j (l.getD i default)
def swapR (l : List α) (a b : Nat) : Nat → List α
  | 0 => l
  | n + 1 => swap1 (swapR l a b n) (a + n) (b + n)
theorem swap1_seg (P M Q : List α) (x y : α) : swap1 (P ++ x :: (M ++ y :: Q)) P.length (P.length + 1 + M.length) = P ++ y :: (M ++ x :: Q) := by
  have e1 : (P ++ x :: (M ++ y :: Q)).getD P.length default = x := by simp
  have e2 : (P ++ x :: (M ++ y :: Q)).getD (P.length + 1 + M.length) default = y := by
    rw [List.getD_eq_getElem?_getD, List.getElem?_append_right (by omega), show P.length + 1 + M.length - P.length = M.length + 1 by omega, List.getElem?_cons_succ, List.getElem?_append_right (Nat.le_refl _), Nat.sub_self]
    rfl
  unfold swap1
  rw [e1, e2, List.set_append_right _ _ (Nat.le_refl _), Nat.sub_self, List.set_cons_zero, List.set_append_right _ _ (by omega), show P.length + 1 + M.length - P.length = M.length + 1 by omega, List.set_cons_succ, List.set_append_right _ _ (Nat.le_refl _), Nat.sub_self, List.set_cons_zero]
theorem swapR_seg : ∀ (n : Nat) (P X M Y Q : List α), X.length = n → Y.length = n → swapR (P ++ (X ++ (M ++ (Y ++ Q)))) P.length (P.length + n + M.length) n = P ++ (Y ++ (M ++ (X ++ Q)))
  | 0, P, X, M, Y, Q, hx, hy => by
    rw [List.length_eq_zero_iff.1 hx, List.length_eq_zero_iff.1 hy]
    rfl
  | n + 1, P, X, M, Y, Q, hx, hy => by
    obtain ⟨X', x, rfl⟩ : ∃ X' x, X = X' ++ [x] := ⟨X.dropLast, X.getLast (by intro h; rw [h] at hx; cases hx), (List.dropLast_concat_getLast _).symm⟩
    obtain ⟨Y', y, rfl⟩ : ∃ Y' y, Y = Y' ++ [y] := ⟨Y.dropLast, Y.getLast (by intro h; rw [h] at hy; cases hy), (List.dropLast_concat_getLast _).symm⟩
    have hx' : X'.length = n := by simpa using hx
    have hy' : Y'.length = n := by simpa using hy
    have ih := swapR_seg n P X' ([x] ++ M) Y' ([y] ++ Q) hx' hy'
    have e : P.length + n + ([x] ++ M).length = P.length + (n + 1) + M.length := by simp; omega
    rw [e] at ih
    have e2 : P ++ ((X' ++ [x]) ++ (M ++ ((Y' ++ [y]) ++ Q))) = P ++ (X' ++ (([x] ++ M) ++ (Y' ++ ([y] ++ Q)))) := by simp
    rw [swapR, e2, ih]
    have h := swap1_seg (P ++ Y') (M ++ X') Q x y
    have l1 : (P ++ Y').length = P.length + n := by simp [hy']
    have l2 : (P ++ Y').length + 1 + (M ++ X').length = P.length + (n + 1) + M.length + n := by simp [hx', hy']; omega
    rw [l2, l1] at h
    have e3 : P ++ (Y' ++ (([x] ++ M) ++ (X' ++ ([y] ++ Q)))) = (P ++ Y') ++ x :: ((M ++ X') ++ y :: Q) := by simp
    rw [e3, h]
    simp
def rot (l : List α) (m : Nat) : Nat → Nat → Nat → List α
  | 0, _, _ => l
  | k + 1, i, j => if i = j then swapR l (m - i) m i else if i > j then rot (swapR l (m - i) m j) m k (i - j) j else rot (swapR l (m - i) (m + j - i) i) m k i (j - i)
theorem rot_seg : ∀ (k : Nat) (P X Y Q : List α), X.length + Y.length ≤ k → 0 < X.length → 0 < Y.length → rot (P ++ (X ++ (Y ++ Q))) (P.length + X.length) k X.length Y.length = P ++ (Y ++ (X ++ Q))
  | 0, P, X, Y, Q, h, h0, _ => by omega
  | k + 1, P, X, Y, Q, h, h0, h1 => by
    rw [rot]
    split
    · rename_i e
      have := swapR_seg X.length P X [] Y Q rfl e.symm
      simp only [List.nil_append, List.length_nil, Nat.add_zero] at this
      rw [show P.length + X.length - X.length = P.length by omega]
      exact this
    · rename_i e
      split
      · rename_i g
        obtain ⟨X1, X2, rfl, hX1⟩ : ∃ X1 X2, X = X1 ++ X2 ∧ X1.length = Y.length := ⟨X.take Y.length, X.drop Y.length, (List.take_append_drop _ _).symm, by rw [List.length_take]; omega⟩
        have hs := swapR_seg Y.length P X1 X2 Y Q hX1 rfl
        have e1 : P ++ ((X1 ++ X2) ++ (Y ++ Q)) = P ++ (X1 ++ (X2 ++ (Y ++ Q))) := by simp
        have e2 : P.length + (X1 ++ X2).length = P.length + Y.length + X2.length := by rw [List.length_append]; omega
        rw [e1, e2, show P.length + Y.length + X2.length - (X1 ++ X2).length = P.length by rw [List.length_append]; omega, hs, show (X1 ++ X2).length - Y.length = X2.length by rw [List.length_append]; omega]
        have ih := rot_seg k (P ++ Y) X2 X1 Q (by rw [List.length_append] at h; omega) (by rw [List.length_append] at g; omega) (by omega)
        rw [hX1, List.length_append] at ih
        have e3 : P ++ (Y ++ (X2 ++ (X1 ++ Q))) = (P ++ Y) ++ (X2 ++ (X1 ++ Q)) := by simp
        rw [e3, ih]
        simp
      · rename_i g
        have g' : X.length < Y.length := by omega
        obtain ⟨Y1, Y2, rfl, hY2⟩ : ∃ Y1 Y2, Y = Y1 ++ Y2 ∧ Y2.length = X.length := ⟨Y.take (Y.length - X.length), Y.drop (Y.length - X.length), (List.take_append_drop _ _).symm, by rw [List.length_drop]; omega⟩
        have hs := swapR_seg X.length P X Y1 Y2 Q rfl hY2
        have e1 : P ++ (X ++ ((Y1 ++ Y2) ++ Q)) = P ++ (X ++ (Y1 ++ (Y2 ++ Q))) := by simp
        have hl : (Y1 ++ Y2).length = Y1.length + X.length := by rw [List.length_append, hY2]
        rw [e1, hl, show P.length + X.length - X.length = P.length by omega, show P.length + X.length + (Y1.length + X.length) - X.length = P.length + X.length + Y1.length by omega, hs, show Y1.length + X.length - X.length = Y1.length by omega]
        have ih := rot_seg k P Y2 Y1 (X ++ Q) (by rw [hl] at h; omega) (by omega) (by rw [hl] at g'; omega)
        rw [hY2] at ih
        have e3 : P ++ (Y2 ++ (Y1 ++ (X ++ Q))) = P ++ (Y2 ++ (Y1 ++ (X ++ Q))) := rfl
        rw [ih]
        simp
end
def bs (P : Nat → Bool) : Nat → Nat → Nat → Nat
  | 0, s, _ => s
  | k + 1, s, r => if s < r then (if P ((s + r) / 2) = true then bs P k ((s + r) / 2 + 1) r else bs P k s ((s + r) / 2)) else s
theorem bs_ok (P : Nat → Bool) : ∀ (k s r : Nat), r - s ≤ k → s ≤ r → (∀ c d, s ≤ c → c ≤ d → d < r → P d = true → P c = true) →
    s ≤ bs P k s r ∧ bs P k s r ≤ r ∧ (∀ c, s ≤ c → c < bs P k s r → P c = true) ∧ ∀ c, bs P k s r ≤ c → c < r → P c = false
  | 0, s, r, h, hs, _ => by
    simp only [bs]
    exact ⟨Nat.le_refl _, hs, fun c h1 h2 => by omega, fun c h1 h2 => by omega⟩
  | k + 1, s, r, h, hs, hm => by
    rw [bs]
    by_cases h0 : s < r
    · rw [if_pos h0]
      by_cases hp : P ((s + r) / 2) = true
      · rw [if_pos hp]
        obtain ⟨i1, i2, i3, i4⟩ := bs_ok P k ((s + r) / 2 + 1) r (by omega) (by omega) (fun c d h1 h2 h3 => hm c d (by omega) h2 h3)
        refine ⟨by omega, i2, fun c h1 h2 => ?_, i4⟩
        by_cases hc : c ≤ (s + r) / 2
        · exact hm c ((s + r) / 2) h1 hc (by omega) hp
        · exact i3 c (by omega) h2
      · rw [if_neg hp]
        obtain ⟨i1, i2, i3, i4⟩ := bs_ok P k s ((s + r) / 2) (by omega) (by omega) (fun c d h1 h2 h3 => hm c d h1 h2 (by omega))
        refine ⟨i1, by omega, i3, fun c h1 h2 => ?_⟩
        by_cases hc : c < (s + r) / 2
        · exact i4 c h1 hc
        · cases hq : P c with
          | false => rfl
          | true => exact absurd (hm ((s + r) / 2) c (by omega) (by omega) h2 hq) hp
    · rw [if_neg h0]
      exact ⟨Nat.le_refl _, hs, fun c h1 h2 => by omega, fun c h1 h2 => by omega⟩
end Go.Proofs.Ytpnejhelandclaa.S2
namespace Go.Proofs.Ytpnejhelandclaa.S3
open Go.Proofs.Ytpnejhelandclaa.S1 Go.Proofs.Ytpnejhelandclaa.S2
section
variable {α : Type} (lt : α → α → Prop) [DecidableRel lt]
theorem mrg_one (x : α) (B1 B2 : List α) (h1 : ∀ y ∈ B1, lt y x) (h2 : ∀ y ∈ B2, ¬lt y x) : mrg lt [x] (B1 ++ B2) = B1 ++ x :: B2 := by
  have h := mrg_halves lt [] [x] B1 B2 (fun a ha => by cases ha) (fun y hy a ha => by rw [List.mem_singleton.1 ha]; exact h1 y hy)
  rw [List.nil_append, nil_mrg] at h
  rw [h]
  have h3 := mrg_halves lt [x] [] [] B2 (fun a ha y hy => by rw [List.mem_singleton.1 ha]; exact h2 y hy) (fun y hy => by cases hy)
  rw [List.append_nil, List.nil_append, mrg_nil, nil_mrg] at h3
  rw [h3]
  rfl
theorem mrg_last (y : α) (A1 A2 : List α) (h1 : ∀ x ∈ A1, ¬lt y x) (h2 : ∀ x ∈ A2, lt y x) : mrg lt (A1 ++ A2) [y] = A1 ++ y :: A2 := by
  have h := mrg_halves lt A1 A2 [] [y] (fun x hx b hb => by rw [List.mem_singleton.1 hb]; exact h1 x hx) (fun b hb => by cases hb)
  rw [List.nil_append, mrg_nil] at h
  rw [h]
  have h3 := mrg_halves lt [] A2 [y] [] (fun a ha => by cases ha) (fun b hb x hx => by rw [List.mem_singleton.1 hb]; exact h2 x hx)
  rw [List.append_nil, List.nil_append, mrg_nil, nil_mrg] at h3
  rw [h3]
  rfl
end
section
variable {α : Type} [Inhabited α]
def up (l : List α) : Nat → Nat → List α
  | _, 0 => l
  | k, n + 1 => up (swap1 l k (k + 1)) (k + 1) n
def down (l : List α) : Nat → Nat → List α
  | _, 0 => l
  | k, n + 1 => down (swap1 l k (k - 1)) (k - 1) n
def symM (c : α → α → Bool) : Nat → List α → Nat → Nat → Nat → List α
  | 0, l, _, _, _ => l
  | k + 1, l, a, m, b =>
    if m - a = 1 then up l a (bs (fun h => c (l.getD h default) (l.getD a default)) (b - m) m b - 1 - a)
    else if b - m = 1 then down l m (m - bs (fun h => !c (l.getD m default) (l.getD h default)) (m - a) a m)
    else
      let mid := (a + b) / 2
      let s := bs (fun q => !c (l.getD (mid + m - 1 - q) default) (l.getD q default)) (b - a) (if m > mid then mid + m - b else a) (if m > mid then mid else m)
      let l1 := if s < m ∧ m < mid + m - s then rot l m (b - a) (m - s) (mid - s) else l
      let l2 := if a < s ∧ s < mid then symM c k l1 a s mid else l1
      if mid < mid + m - s ∧ mid + m - s < b then symM c k l2 mid (mid + m - s) b else l2
theorem up_seg : ∀ (Y P Q : List α) (x : α), up (P ++ x :: (Y ++ Q)) P.length Y.length = P ++ (Y ++ x :: Q)
  | [], P, Q, x => rfl
  | y :: Y, P, Q, x => by
    have h := swap1_seg P [] (Y ++ Q) x y
    simp only [List.nil_append, List.length_nil, Nat.add_zero] at h
    rw [List.length_cons, up]
    simp only [List.cons_append]
    rw [h]
    have ih := up_seg Y (P ++ [y]) Q x
    rw [List.length_append, List.length_singleton] at ih
    rw [show P ++ y :: x :: (Y ++ Q) = (P ++ [y]) ++ x :: (Y ++ Q) by simp, ih]
    simp
theorem swap1_comm (l : List α) (i j : Nat) (h : i ≠ j) : swap1 l i j = swap1 l j i := by
  unfold swap1
  exact List.set_comm _ _ h
theorem down_seg : ∀ (n : Nat) (X P Q : List α) (y : α), X.length = n → down (P ++ (X ++ y :: Q)) (P.length + n) n = P ++ y :: (X ++ Q)
  | 0, X, P, Q, y, h => by rw [List.length_eq_zero_iff.1 h]; rfl
  | n + 1, X, P, Q, y, h => by
    obtain ⟨X', x, rfl⟩ : ∃ X' x, X = X' ++ [x] := ⟨X.dropLast, X.getLast (by intro e; rw [e] at h; cases h), (List.dropLast_concat_getLast _).symm⟩
    have h' : X'.length = n := by simpa using h
    have hs := swap1_seg (P ++ X') [] Q x y
    simp only [List.nil_append, List.length_nil, Nat.add_zero] at hs
    have l1 : (P ++ X').length = P.length + n := by simp [h']
    rw [l1] at hs
    rw [down, show P.length + (n + 1) - 1 = P.length + n by omega, swap1_comm _ _ _ (by omega), show P.length + (n + 1) = P.length + n + 1 by omega, show P ++ ((X' ++ [x]) ++ y :: Q) = (P ++ X') ++ x :: y :: Q by simp, hs, show (P ++ X') ++ y :: x :: Q = P ++ (X' ++ y :: ([x] ++ Q)) by simp]
    rw [down_seg n X' P ([x] ++ Q) y h']
    simp
variable (lt : α → α → Prop)
theorem asc {A : List α} (h : A.Pairwise lt) {i j : Nat} (hij : i ≤ j) (hj : j < A.length) : A.getD i default = A.getD j default ∨ lt (A.getD i default) (A.getD j default) := by
  by_cases e : i = j
  · exact .inl (by rw [e])
  · right
    rw [List.getD_eq_getElem?_getD, List.getD_eq_getElem?_getD, List.getElem?_eq_getElem (by omega), List.getElem?_eq_getElem hj]
    exact (List.pairwise_iff_getElem.1 h) i j (by omega) hj (by omega)
theorem mem_getD {A : List α} {x : α} (h : x ∈ A) : ∃ i, i < A.length ∧ A.getD i default = x := by
  obtain ⟨i, hi, e⟩ := List.getElem_of_mem h
  exact ⟨i, hi, by rw [List.getD_eq_getElem?_getD, List.getElem?_eq_getElem hi]; exact e⟩
theorem getD_mem {A : List α} {i : Nat} (h : i < A.length) : A.getD i default ∈ A := by
  rw [List.getD_eq_getElem?_getD, List.getElem?_eq_getElem h]
  exact List.getElem_mem h
theorem getA (P A B Q : List α) (i : Nat) (h : i < A.length) : (P ++ (A ++ (B ++ Q))).getD (P.length + i) default = A.getD i default := by
  rw [List.getD_eq_getElem?_getD, List.getD_eq_getElem?_getD, List.getElem?_append_right (by omega), Nat.add_sub_cancel_left, List.getElem?_append_left h]
theorem getB (P A B Q : List α) (i : Nat) (h : i < B.length) : (P ++ (A ++ (B ++ Q))).getD (P.length + A.length + i) default = B.getD i default := by
  rw [List.getD_eq_getElem?_getD, List.getD_eq_getElem?_getD, List.getElem?_append_right (by omega), show P.length + A.length + i - P.length = A.length + i by omega, List.getElem?_append_right (by omega), Nat.add_sub_cancel_left, List.getElem?_append_left h]
theorem getD_take {A : List α} {i n : Nat} (h : i < n) : (A.take n).getD i default = A.getD i default := by
  rw [List.getD_eq_getElem?_getD, List.getD_eq_getElem?_getD, List.getElem?_take_of_lt h]
theorem getD_drop (A : List α) (i n : Nat) : (A.drop n).getD i default = A.getD (n + i) default := by
  rw [List.getD_eq_getElem?_getD, List.getD_eq_getElem?_getD, List.getElem?_drop]
variable [DecidableRel lt]
theorem symM_seg (c : α → α → Bool) (hT : ∀ {x y z : α}, lt x y → lt y z → lt x z) : ∀ (k : Nat) (P A B Q : List α), A.length + B.length ≤ k → 0 < A.length → 0 < B.length → A.Pairwise lt → B.Pairwise lt → (∀ y ∈ B, ∀ x ∈ A, (c y x = true ↔ lt y x)) →
    symM c k (P ++ (A ++ (B ++ Q))) P.length (P.length + A.length) (P.length + A.length + B.length) = P ++ (mrg lt A B ++ Q)
  | 0, P, A, B, Q, h, h0, _, _, _, _ => by omega
  | k + 1, P, A, B, Q, h, h0, h1, hA, hB, hc => by
    rw [symM]
    by_cases e1 : P.length + A.length - P.length = 1
    · rw [if_pos e1]
      obtain ⟨x, rfl⟩ : ∃ x, A = [x] := List.length_eq_one_iff.1 (by omega)
      have hx : (P ++ ([x] ++ (B ++ Q))).getD P.length default = x := by
        simp
      have gB : ∀ j, j < B.length → (P ++ ([x] ++ (B ++ Q))).getD (P.length + 1 + j) default = B.getD j default := fun j hj => getB P [x] B Q j hj
      have hm : ∀ j, j < B.length → (c (B.getD j default) x = true ↔ lt (B.getD j default) x) := fun j hj => hc _ (getD_mem hj) x (List.mem_cons_self ..)
      obtain ⟨i, hi⟩ : ∃ i, i = bs (fun h => c ((P ++ ([x] ++ (B ++ Q))).getD h default) ((P ++ ([x] ++ (B ++ Q))).getD P.length default)) (P.length + [x].length + B.length - (P.length + [x].length)) (P.length + [x].length) (P.length + [x].length + B.length) := ⟨_, rfl⟩
      have hb := bs_ok (fun h => c ((P ++ ([x] ++ (B ++ Q))).getD h default) ((P ++ ([x] ++ (B ++ Q))).getD P.length default)) (P.length + [x].length + B.length - (P.length + [x].length)) (P.length + [x].length) (P.length + [x].length + B.length) (by omega) (by omega) (by
        intro q d hq hd hr hp
        simp only [List.length_singleton] at hq hr
        obtain ⟨q', rfl⟩ : ∃ q', q = P.length + 1 + q' := ⟨q - (P.length + 1), by omega⟩
        obtain ⟨d', rfl⟩ : ∃ d', d = P.length + 1 + d' := ⟨d - (P.length + 1), by omega⟩
        simp only [hx] at hp ⊢
        rw [gB d' (by omega), hm d' (by omega)] at hp
        rw [gB q' (by omega), hm q' (by omega)]
        rcases asc lt hB (i := q') (j := d') (by omega) (by omega) with e | e
        · rw [e]; exact hp
        · exact hT e hp)
      rw [← hi] at hb ⊢
      obtain ⟨b1, b2, b3, b4⟩ := hb
      simp only [List.length_singleton, hx] at b1 b2 b3 b4
      obtain ⟨t, rfl⟩ : ∃ t, i = P.length + 1 + t := ⟨i - (P.length + 1), by omega⟩
      have ht : t ≤ B.length := by omega
      rw [show P.length + 1 + t - 1 - P.length = t by omega]
      have hu := up_seg (B.take t) P (B.drop t ++ Q) x
      rw [List.length_take, Nat.min_eq_left ht] at hu
      rw [show P ++ ([x] ++ (B ++ Q)) = P ++ x :: (B.take t ++ (B.drop t ++ Q)) by rw [← List.append_assoc (B.take t), List.take_append_drop]; rfl, hu]
      have hq := mrg_one lt x (B.take t) (B.drop t) (fun y hy => by
        obtain ⟨j, hj, rfl⟩ := mem_getD hy
        rw [List.length_take] at hj
        rw [getD_take (by omega), ← hm j (by omega), ← gB j (by omega)]
        exact b3 (P.length + 1 + j) (by omega) (by omega)) (fun y hy => by
        obtain ⟨j, hj, rfl⟩ := mem_getD hy
        rw [List.length_drop] at hj
        rw [getD_drop, ← hm (t + j) (by omega), ← gB (t + j) (by omega)]
        have := b4 (P.length + 1 + (t + j)) (by omega) (by omega)
        rw [this]
        decide)
      rw [List.take_append_drop] at hq
      rw [hq]
      simp
    · rw [if_neg e1]
      by_cases e2 : P.length + A.length + B.length - (P.length + A.length) = 1
      · rw [if_pos e2]
        obtain ⟨y, rfl⟩ : ∃ y, B = [y] := List.length_eq_one_iff.1 (by omega)
        have hy : (P ++ (A ++ ([y] ++ Q))).getD (P.length + A.length) default = y := by
          simp
        have gA : ∀ j, j < A.length → (P ++ (A ++ ([y] ++ Q))).getD (P.length + j) default = A.getD j default := fun j hj => getA P A [y] Q j hj
        have hm : ∀ j, j < A.length → (c y (A.getD j default) = true ↔ lt y (A.getD j default)) := fun j hj => hc y (List.mem_cons_self ..) _ (getD_mem hj)
        obtain ⟨i, hi⟩ : ∃ i, i = bs (fun h => !c ((P ++ (A ++ ([y] ++ Q))).getD (P.length + A.length) default) ((P ++ (A ++ ([y] ++ Q))).getD h default)) (P.length + A.length - P.length) P.length (P.length + A.length) := ⟨_, rfl⟩
        have hb := bs_ok (fun h => !c ((P ++ (A ++ ([y] ++ Q))).getD (P.length + A.length) default) ((P ++ (A ++ ([y] ++ Q))).getD h default)) (P.length + A.length - P.length) P.length (P.length + A.length) (by omega) (by omega) (by
          intro q d hq hd hr hp
          obtain ⟨q', rfl⟩ : ∃ q', q = P.length + q' := ⟨q - P.length, by omega⟩
          obtain ⟨d', rfl⟩ : ∃ d', d = P.length + d' := ⟨d - P.length, by omega⟩
          simp only [hy, Bool.not_eq_true'] at hp ⊢
          rw [gA d' (by omega)] at hp
          rw [gA q' (by omega)]
          cases hq2 : c y (A.getD q' default) with
          | false => rfl
          | true =>
            exfalso
            rw [hm q' (by omega)] at hq2
            have : lt y (A.getD d' default) := by
              rcases asc lt hA (i := q') (j := d') (by omega) (by omega) with e | e
              · rw [← e]; exact hq2
              · exact hT hq2 e
            rw [(hm d' (by omega)).2 this] at hp
            cases hp)
        rw [← hi] at hb ⊢
        obtain ⟨b1, b2, b3, b4⟩ := hb
        simp only [hy] at b3 b4
        obtain ⟨t, rfl⟩ : ∃ t, i = P.length + t := ⟨i - P.length, by omega⟩
        have ht : t ≤ A.length := by omega
        rw [show P.length + A.length - (P.length + t) = A.length - t by omega]
        have hd := down_seg (A.length - t) (A.drop t) (P ++ A.take t) Q y (by rw [List.length_drop])
        rw [List.length_append, List.length_take, Nat.min_eq_left ht, show P.length + t + (A.length - t) = P.length + A.length by omega] at hd
        rw [show P ++ (A ++ ([y] ++ Q)) = (P ++ A.take t) ++ (A.drop t ++ y :: Q) by rw [List.append_assoc, ← List.append_assoc (A.take t), List.take_append_drop]; rfl, hd]
        have hq := mrg_last lt y (A.take t) (A.drop t) (fun x hx => by
          obtain ⟨j, hj, rfl⟩ := mem_getD hx
          rw [List.length_take] at hj
          rw [getD_take (by omega), ← hm j (by omega), ← gA j (by omega)]
          have := b3 (P.length + j) (by omega) (by omega)
          rw [Bool.not_eq_true'] at this
          rw [this]
          decide) (fun x hx => by
          obtain ⟨j, hj, rfl⟩ := mem_getD hx
          rw [List.length_drop] at hj
          rw [getD_drop, ← hm (t + j) (by omega), ← gA (t + j) (by omega)]
          have := b4 (P.length + (t + j)) (by omega) (by omega)
          rwa [Bool.not_eq_false'] at this)
        rw [List.take_append_drop] at hq
        rw [hq]
        simp
      · rw [if_neg e2]
        have a2 : 2 ≤ A.length := by omega
        have b2 : 2 ≤ B.length := by omega
        dsimp only
        obtain ⟨mid, hmid⟩ : ∃ mid, mid = (P.length + (P.length + A.length + B.length)) / 2 := ⟨_, rfl⟩
        rw [← hmid]
        obtain ⟨lo, hlo⟩ : ∃ lo, lo = (if P.length + A.length > mid then mid + (P.length + A.length) - (P.length + A.length + B.length) else P.length) := ⟨_, rfl⟩
        obtain ⟨hi, hhi⟩ : ∃ hi, hi = (if P.length + A.length > mid then mid else P.length + A.length) := ⟨_, rfl⟩
        rw [← hlo, ← hhi]
        have hR : (P.length + A.length > mid ∧ lo + B.length = mid ∧ hi = mid) ∨ (P.length + A.length ≤ mid ∧ lo = P.length ∧ hi = P.length + A.length) := by
          by_cases hg : P.length + A.length > mid
          · rw [if_pos hg] at hlo hhi
            exact .inl ⟨hg, by omega, hhi⟩
          · rw [if_neg hg] at hlo hhi
            exact .inr ⟨by omega, hlo, hhi⟩
        clear hlo hhi
        have hA1 : ∀ i, i < A.length → (P ++ (A ++ (B ++ Q))).getD (P.length + i) default = A.getD i default := fun i h => getA P A B Q i h
        have hB1 : ∀ i, i < B.length → (P ++ (A ++ (B ++ Q))).getD (P.length + A.length + i) default = B.getD i default := fun i h => getB P A B Q i h
        have hm : ∀ i j, i < A.length → j < B.length → (c (B.getD j default) (A.getD i default) = true ↔ lt (B.getD j default) (A.getD i default)) := fun i j h g => hc _ (getD_mem g) _ (getD_mem h)
        have hP : ∀ q, lo ≤ q → q < hi → (!c ((P ++ (A ++ (B ++ Q))).getD (mid + (P.length + A.length) - 1 - q) default) ((P ++ (A ++ (B ++ Q))).getD q default)) = !c (B.getD (mid - 1 - q) default) (A.getD (q - P.length) default) := fun q h1 h2 => by
          have g1 := hA1 (q - P.length) (by omega)
          have g2 := hB1 (mid - 1 - q) (by omega)
          rw [show P.length + (q - P.length) = q by omega] at g1
          rw [show P.length + A.length + (mid - 1 - q) = mid + (P.length + A.length) - 1 - q by omega] at g2
          rw [g1, g2]
        obtain ⟨s, hs⟩ : ∃ s, s = bs (fun q => !c ((P ++ (A ++ (B ++ Q))).getD (mid + (P.length + A.length) - 1 - q) default) ((P ++ (A ++ (B ++ Q))).getD q default)) (P.length + A.length + B.length - P.length) lo hi := ⟨_, rfl⟩
        have hb := bs_ok (fun q => !c ((P ++ (A ++ (B ++ Q))).getD (mid + (P.length + A.length) - 1 - q) default) ((P ++ (A ++ (B ++ Q))).getD q default)) (P.length + A.length + B.length - P.length) lo hi (by omega) (by omega) (by
          intro q d hq hd hr hp
          rw [hP d (by omega) hr, Bool.not_eq_true'] at hp
          rw [hP q hq (by omega), Bool.not_eq_true']
          cases hq2 : c (B.getD (mid - 1 - q) default) (A.getD (q - P.length) default) with
          | false => rfl
          | true =>
            exfalso
            rw [hm _ _ (by omega) (by omega)] at hq2
            have f1 : lt (B.getD (mid - 1 - d) default) (A.getD (q - P.length) default) := by
              rcases asc lt hB (i := mid - 1 - d) (j := mid - 1 - q) (by omega) (by omega) with e | e
              · rw [e]; exact hq2
              · exact hT e hq2
            have f2 : lt (B.getD (mid - 1 - d) default) (A.getD (d - P.length) default) := by
              rcases asc lt hA (i := q - P.length) (j := d - P.length) (by omega) (by omega) with e | e
              · rw [← e]; exact f1
              · exact hT f1 e
            rw [(hm _ _ (by omega) (by omega)).2 f2] at hp
            cases hp)
        rw [← hs] at hb ⊢
        clear hs
        obtain ⟨q1, q2, q3, q4⟩ := hb
        obtain ⟨t, ht⟩ : ∃ t, t = s - P.length := ⟨_, rfl⟩
        obtain ⟨u, hu⟩ : ∃ u, u = mid - s := ⟨_, rfl⟩
        have t1 : t ≤ A.length := by omega
        have u1 : u ≤ B.length := by omega
        have lA1 : (A.take t).length = t := by rw [List.length_take, Nat.min_eq_left t1]
        have lB1 : (B.take u).length = u := by rw [List.length_take, Nat.min_eq_left u1]
        have lA2 : (A.drop t).length = A.length - t := List.length_drop
        have lB2 : (B.drop u).length = B.length - u := List.length_drop
        have hh1 : ∀ x ∈ A.take t, ∀ y ∈ B.drop u, ¬lt y x := fun x hx y hy hl => by
          obtain ⟨i, hi1, rfl⟩ := mem_getD hx
          obtain ⟨j, hj1, rfl⟩ := mem_getD hy
          rw [lA1] at hi1
          rw [lB2] at hj1
          rw [getD_take hi1, getD_drop] at hl
          have g := q3 (s - 1) (by omega) (by omega)
          rw [hP (s - 1) (by omega) (by omega), Bool.not_eq_true', show mid - 1 - (s - 1) = u by omega, show s - 1 - P.length = t - 1 by omega] at g
          have f1 : lt (B.getD u default) (A.getD i default) := by
            rcases asc lt hB (i := u) (j := u + j) (by omega) (by omega) with e | e
            · rw [e]; exact hl
            · exact hT e hl
          have f2 : lt (B.getD u default) (A.getD (t - 1) default) := by
            rcases asc lt hA (i := i) (j := t - 1) (by omega) (by omega) with e | e
            · rw [← e]; exact f1
            · exact hT f1 e
          rw [(hm _ _ (by omega) (by omega)).2 f2] at g
          cases g
        have hh2 : ∀ y ∈ B.take u, ∀ x ∈ A.drop t, lt y x := fun y hy x hx => by
          obtain ⟨j, hj1, rfl⟩ := mem_getD hy
          obtain ⟨i, hi1, rfl⟩ := mem_getD hx
          rw [lB1] at hj1
          rw [lA2] at hi1
          rw [getD_take hj1, getD_drop]
          have g := q4 s (Nat.le_refl _) (by omega)
          rw [hP s (by omega) (by omega), Bool.not_eq_false', show mid - 1 - s = u - 1 by omega, show s - P.length = t by omega, hm _ _ (by omega) (by omega)] at g
          have f1 : lt (B.getD j default) (A.getD t default) := by
            rcases asc lt hB (i := j) (j := u - 1) (by omega) (by omega) with e | e
            · rw [e]; exact g
            · exact hT e g
          rcases asc lt hA (i := t) (j := t + i) (by omega) (by omega) with e | e
          · rw [← e]; exact f1
          · exact hT f1 e
        have hmerge : mrg lt A B = mrg lt (A.take t) (B.take u) ++ mrg lt (A.drop t) (B.drop u) := by
          have := mrg_halves lt (A.take t) (A.drop t) (B.take u) (B.drop u) hh1 hh2
          rwa [List.take_append_drop, List.take_append_drop] at this
        have hAB : P ++ (A ++ (B ++ Q)) = P ++ (A.take t ++ (A.drop t ++ (B.take u ++ (B.drop u ++ Q)))) := by
          rw [← List.append_assoc (A.take t), List.take_append_drop, ← List.append_assoc (B.take u), List.take_append_drop]
        have s1 : (if s < P.length + A.length ∧ P.length + A.length < mid + (P.length + A.length) - s then rot (P ++ (A ++ (B ++ Q))) (P.length + A.length) (P.length + A.length + B.length - P.length) (P.length + A.length - s) (mid - s) else P ++ (A ++ (B ++ Q))) = P ++ (A.take t ++ (B.take u ++ (A.drop t ++ (B.drop u ++ Q)))) := by
          by_cases hr : s < P.length + A.length ∧ P.length + A.length < mid + (P.length + A.length) - s
          · rw [if_pos hr, hAB]
            have h := rot_seg (P.length + A.length + B.length - P.length) (P ++ A.take t) (A.drop t) (B.take u) (B.drop u ++ Q) (by rw [lA2, lB1]; omega) (by rw [lA2]; omega) (by rw [lB1]; omega)
            rw [lA2, lB1, List.length_append, lA1, show P.length + t + (A.length - t) = P.length + A.length by omega, show A.length - t = P.length + A.length - s by omega, hu] at h
            rw [List.append_assoc, List.append_assoc] at h
            rw [hu]
            exact h
          · rw [if_neg hr, hAB]
            by_cases h3 : s < P.length + A.length
            · have : u = 0 := by omega
              rw [this, List.take_zero]
              rfl
            · have : A.drop t = [] := List.drop_eq_nil_of_le (by omega)
              rw [this]
              rfl
        rw [s1]
        have s2 : (if P.length < s ∧ s < mid then symM c k (P ++ (A.take t ++ (B.take u ++ (A.drop t ++ (B.drop u ++ Q))))) P.length s mid else P ++ (A.take t ++ (B.take u ++ (A.drop t ++ (B.drop u ++ Q))))) = P ++ (mrg lt (A.take t) (B.take u) ++ (A.drop t ++ (B.drop u ++ Q))) := by
          by_cases hr : P.length < s ∧ s < mid
          · rw [if_pos hr]
            have h := symM_seg c hT k P (A.take t) (B.take u) (A.drop t ++ (B.drop u ++ Q)) (by rw [lA1, lB1]; omega) (by rw [lA1]; omega) (by rw [lB1]; omega) (hA.sublist (List.take_sublist _ _)) (hB.sublist (List.take_sublist _ _)) (fun y hy x hx => hc y (List.mem_of_mem_take hy) x (List.mem_of_mem_take hx))
            rw [lA1, lB1, show P.length + t = s by omega, show s + u = mid by omega] at h
            exact h
          · rw [if_neg hr]
            by_cases h3 : P.length < s
            · have : u = 0 := by omega
              rw [this, List.take_zero, mrg_nil]
              rfl
            · have : t = 0 := by omega
              rw [this, List.take_zero, nil_mrg]
              rfl
        rw [s2, hmerge]
        by_cases hr : mid < mid + (P.length + A.length) - s ∧ mid + (P.length + A.length) - s < P.length + A.length + B.length
        · rw [if_pos hr]
          have lM : (P ++ mrg lt (A.take t) (B.take u)).length = mid := by
            rw [List.length_append, (mrg_perm lt _ _).length_eq, List.length_append, lA1, lB1]
            omega
          have h := symM_seg c hT k (P ++ mrg lt (A.take t) (B.take u)) (A.drop t) (B.drop u) Q (by rw [lA2, lB2]; omega) (by rw [lA2]; omega) (by rw [lB2]; omega) (hA.sublist (List.drop_sublist _ _)) (hB.sublist (List.drop_sublist _ _)) (fun y hy x hx => hc y (List.mem_of_mem_drop hy) x (List.mem_of_mem_drop hx))
          rw [lM, lA2, lB2, show mid + (A.length - t) = mid + (P.length + A.length) - s by omega, show mid + (P.length + A.length) - s + (B.length - u) = P.length + A.length + B.length by omega, List.append_assoc, List.append_assoc] at h
          rw [h, List.append_assoc]
        · rw [if_neg hr, List.append_assoc]
          by_cases h3 : mid < mid + (P.length + A.length) - s
          · have : B.drop u = [] := List.drop_eq_nil_of_le (by omega)
            rw [this, mrg_nil]
            rfl
          · have : A.drop t = [] := List.drop_eq_nil_of_le (by omega)
            rw [this, nil_mrg]
            rfl
end
end Go.Proofs.Ytpnejhelandclaa.S3
namespace Go.Proofs.Ytpnejhelandclaa.S4
open Go.Proofs.Ytpnejhelandclaa.S1 Go.Proofs.Ytpnejhelandclaa.S2 Go.Proofs.Ytpnejhelandclaa.S3
section
variable {α : Type} (lt : α → α → Prop) [DecidableRel lt]
def insL (X : List α) : List α := X.foldl (fun acc y => mrg lt acc [y]) []
theorem insL_snoc (X : List α) (y : α) : insL lt (X ++ [y]) = mrg lt (insL lt X) [y] := by
  unfold insL
  rw [List.foldl_append]
  rfl
theorem insL_perm : ∀ (n : Nat) (X : List α), X.length = n → (insL lt X).Perm X
  | 0, X, h => by rw [List.length_eq_zero_iff.1 h]; exact List.Perm.refl _
  | n + 1, X, h => by
    obtain ⟨X', y, rfl⟩ : ∃ X' y, X = X' ++ [y] := ⟨X.dropLast, X.getLast (by intro e; rw [e] at h; cases h), (List.dropLast_concat_getLast _).symm⟩
    rw [insL_snoc]
    exact (mrg_perm lt _ _).trans ((insL_perm n X' (by simpa using h)).append_right _)
theorem insL_pw (hT : ∀ {x y z : α}, lt x y → lt y z → lt x z) : ∀ (n : Nat) (X : List α), X.length = n → X.Pairwise (fun x y => lt y x ∨ lt x y) → (insL lt X).Pairwise lt
  | 0, X, h, _ => by rw [List.length_eq_zero_iff.1 h]; exact List.Pairwise.nil
  | n + 1, X, h, hp => by
    obtain ⟨X', y, rfl⟩ : ∃ X' y, X = X' ++ [y] := ⟨X.dropLast, X.getLast (by intro e; rw [e] at h; cases h), (List.dropLast_concat_getLast _).symm⟩
    have h' : X'.length = n := by simpa using h
    have hq := List.pairwise_append.1 hp
    rw [insL_snoc]
    refine mrg_pw lt hT _ _ (insL_pw hT n X' h' hq.1) (List.pairwise_singleton _ _) fun x hx b hb => ?_
    rw [List.mem_singleton.1 hb]
    exact hq.2.2 x ((insL_perm lt n X' h').mem_iff.1 hx) y (List.mem_cons_self ..)
end
section
variable {α : Type} [Inhabited α]
def insJ (c : α → α → Bool) (a : Nat) : Nat → List α → List α
  | 0, l => l
  | n + 1, l => if c (l.getD (a + n + 1) default) (l.getD (a + n) default) = true then insJ c a n (swap1 l (a + n + 1) (a + n)) else l
def insI (c : α → α → Bool) (a : Nat) : Nat → List α → List α
  | 0, l => l
  | r + 1, l => insJ c a (r + 1) (insI c a r l)
def insSort (c : α → α → Bool) (l : List α) (a b : Nat) : List α := insI c a (b - a - 1) l
def stb (c : α → α → Bool) (l : List α) (n : Nat) : List α :=
  if n < 20 then insSort c l 0 n
  else
    let l1 := insSort c l 0 20
    if n < 40 then (if 20 < n then symM c n (insSort c l1 20 n) 0 20 n else insSort c l1 20 n)
    else symM c 40 (insSort c (insSort c l1 20 40) 40 n) 0 20 40
variable (lt : α → α → Prop) [DecidableRel lt]
theorem insJ_seg (c : α → α → Bool) (hT : ∀ {x y z : α}, lt x y → lt y z → lt x z) : ∀ (n : Nat) (A P Q : List α) (y : α), A.length = n → A.Pairwise lt → (∀ x ∈ A, (c y x = true ↔ lt y x)) → insJ c P.length n (P ++ (A ++ y :: Q)) = P ++ (mrg lt A [y] ++ Q)
  | 0, A, P, Q, y, h, _, _ => by
    rw [List.length_eq_zero_iff.1 h, nil_mrg]
    rfl
  | n + 1, A, P, Q, y, h, hA, hc => by
    obtain ⟨A', x, rfl⟩ : ∃ A' x, A = A' ++ [x] := ⟨A.dropLast, A.getLast (by intro e; rw [e] at h; cases h), (List.dropLast_concat_getLast _).symm⟩
    have h' : A'.length = n := by simpa using h
    have e1 : P ++ ((A' ++ [x]) ++ y :: Q) = (P ++ A') ++ x :: ([] ++ y :: Q) := by simp
    have gx : (P ++ ((A' ++ [x]) ++ y :: Q)).getD (P.length + n) default = x := by
      rw [e1, ← h', ← List.length_append, List.getD_eq_getElem?_getD, List.getElem?_append_right (Nat.le_refl _), Nat.sub_self]
      rfl
    have gy : (P ++ ((A' ++ [x]) ++ y :: Q)).getD (P.length + n + 1) default = y := by
      rw [e1, ← h', ← List.length_append, List.getD_eq_getElem?_getD, List.getElem?_append_right (by omega), Nat.add_sub_cancel_left]
      rfl
    have hx : c y x = true ↔ lt y x := hc x (by simp)
    have hpw := List.pairwise_append.1 hA
    rw [insJ, gx, gy]
    by_cases hl : lt y x
    · rw [if_pos (hx.2 hl), swap1_comm _ _ _ (by omega), e1]
      have hs := swap1_seg (P ++ A') [] Q x y
      rw [List.length_append, h', List.length_nil, Nat.add_zero] at hs
      rw [hs]
      have ih := insJ_seg c hT n A' P ([x] ++ Q) y h' hpw.1 (fun z hz => hc z (List.mem_append_left _ hz))
      rw [show P ++ A' ++ y :: ([] ++ x :: Q) = P ++ (A' ++ y :: ([x] ++ Q)) by simp, ih]
      have hm := mrg_halves lt A' [x] [y] [] (fun _ _ b hb => by cases hb) (fun b hb a ha => by rw [List.mem_singleton.1 ha, List.mem_singleton.1 hb]; exact hl)
      rw [List.append_nil, mrg_nil] at hm
      rw [hm]
      simp
    · rw [if_neg fun g => hl (hx.1 g)]
      have hm := mrg_last lt y (A' ++ [x]) [] (fun z hz g => by
        rcases List.mem_append.1 hz with hz | hz
        · exact hl (hT g (hpw.2.2 z hz x (List.mem_cons_self ..)))
        · rw [List.mem_singleton.1 hz] at g
          exact hl g) (fun z hz => by cases hz)
      rw [List.append_nil] at hm
      rw [hm]
      simp
theorem insI_seg (c : α → α → Bool) (hT : ∀ {x y z : α}, lt x y → lt y z → lt x z) : ∀ (r : Nat) (X P Q : List α), X.length = r + 1 → X.Pairwise (fun x y => lt y x ∨ lt x y) → X.Pairwise (fun x y => (c y x = true ↔ lt y x)) → insI c P.length r (P ++ (X ++ Q)) = P ++ (insL lt X ++ Q)
  | 0, X, P, Q, h, _, _ => by
    obtain ⟨x, rfl⟩ : ∃ x, X = [x] := List.length_eq_one_iff.1 (by omega)
    simp [insI, insL, mrg]
  | r + 1, X, P, Q, h, hp, hc => by
    obtain ⟨X', y, rfl⟩ : ∃ X' y, X = X' ++ [y] := ⟨X.dropLast, X.getLast (by intro e; rw [e] at h; cases h), (List.dropLast_concat_getLast _).symm⟩
    have h' : X'.length = r + 1 := by simpa using h
    have hq := List.pairwise_append.1 hp
    have hd := List.pairwise_append.1 hc
    have ih := insI_seg c hT r X' P ([y] ++ Q) h' hq.1 hd.1
    have hpm := insL_perm lt (r + 1) X' h'
    rw [insI, show P ++ ((X' ++ [y]) ++ Q) = P ++ (X' ++ ([y] ++ Q)) by simp, ih]
    have hj := insJ_seg lt c hT (r + 1) (insL lt X') P Q y (by rw [hpm.length_eq, h']) (insL_pw lt hT (r + 1) X' h' hq.1) (fun x hx => hd.2.2 x (hpm.mem_iff.1 hx) y (List.mem_cons_self ..))
    rw [insL_snoc]
    exact hj
theorem insSort_seg (c : α → α → Bool) (hT : ∀ {x y z : α}, lt x y → lt y z → lt x z) (X P Q : List α) (hp : X.Pairwise (fun x y => lt y x ∨ lt x y)) (hc : X.Pairwise (fun x y => (c y x = true ↔ lt y x))) : insSort c (P ++ (X ++ Q)) P.length (P.length + X.length) = P ++ (insL lt X ++ Q) := by
  unfold insSort
  rw [show P.length + X.length - P.length - 1 = X.length - 1 by omega]
  cases X with
  | nil => rfl
  | cons x xs => exact insI_seg lt c hT _ (x :: xs) P Q (by simp) hp hc
theorem stb_ok (c : α → α → Bool) (hT : ∀ {x y z : α}, lt x y → lt y z → lt x z) (X : List α) (hn : X.length ≤ 40) (hp : X.Pairwise (fun x y => lt y x ∨ lt x y)) (hc : X.Pairwise (fun x y => (c y x = true ↔ lt y x))) :
    (stb c X X.length).Perm X ∧ (stb c X X.length).Pairwise lt := by
  have whole := insSort_seg lt c hT X [] [] hp hc
  simp only [List.nil_append, List.append_nil, List.length_nil, Nat.zero_add] at whole
  unfold stb
  by_cases h20 : X.length < 20
  · rw [if_pos h20, whole]
    exact ⟨insL_perm lt _ X rfl, insL_pw lt hT _ X rfl hp⟩
  · rw [if_neg h20]
    dsimp only
    obtain ⟨A, B, rfl, hA⟩ : ∃ A B, X = A ++ B ∧ A.length = 20 := ⟨X.take 20, X.drop 20, (List.take_append_drop _ _).symm, by rw [List.length_take]; omega⟩
    have hpp := List.pairwise_append.1 hp
    have hcc := List.pairwise_append.1 hc
    have sA := insSort_seg lt c hT A [] B hpp.1 hcc.1
    simp only [List.nil_append, List.length_nil, Nat.zero_add] at sA
    rw [hA] at sA
    have pA := insL_perm lt _ A rfl
    have lA : (insL lt A).length = 20 := by rw [pA.length_eq, hA]
    have sB := insSort_seg lt c hT B (insL lt A) [] hpp.2.1 hcc.2.1
    rw [List.append_nil, List.append_nil, lA] at sB
    have pB := insL_perm lt _ B rfl
    have hN : (A ++ B).length = 20 + B.length := by rw [List.length_append, hA]
    have wA := insL_pw lt hT _ A rfl hpp.1
    have wB := insL_pw lt hT _ B rfl hpp.2.1
    rw [hN] at hn h20 ⊢
    have merged : 0 < B.length → ∀ k, 20 + B.length ≤ k → (symM c k (insL lt A ++ insL lt B) 0 20 (20 + B.length)).Perm (A ++ B) ∧ (symM c k (insL lt A ++ insL lt B) 0 20 (20 + B.length)).Pairwise lt := fun h0 k hk => by
      have hm := symM_seg lt c hT k [] (insL lt A) (insL lt B) [] (by rw [lA, pB.length_eq]; exact hk) (by omega) (by rw [pB.length_eq]; exact h0) wA wB (fun y hy x hx => hcc.2.2 x (pA.mem_iff.1 hx) y (pB.mem_iff.1 hy))
      simp only [List.nil_append, List.append_nil, List.length_nil, Nat.zero_add] at hm
      rw [lA, pB.length_eq] at hm
      rw [hm]
      exact ⟨(mrg_perm lt _ _).trans (pA.append pB), mrg_pw lt hT _ _ wA wB fun x hx y hy => hpp.2.2 x (pA.mem_iff.1 hx) y (pB.mem_iff.1 hy)⟩
    rw [sA]
    by_cases h40 : 20 + B.length < 40
    · rw [if_pos h40, sB]
      by_cases h0 : 20 < 20 + B.length
      · rw [if_pos h0]
        exact merged (by omega) _ (Nat.le_refl _)
      · rw [if_neg h0]
        have : B = [] := List.length_eq_zero_iff.1 (by omega)
        rw [this]
        refine ⟨pA.append_right _, ?_⟩
        rw [show insL lt ([] : List α) = [] from rfl, List.append_nil]
        exact wA
    · rw [if_neg h40]
      have hB : B.length = 20 := by omega
      have e40 : insSort c (insL lt A ++ B) 20 40 = insL lt A ++ insL lt B := by
        rw [hB] at sB
        exact sB
      have e0 : ∀ l : List α, insSort c l 40 (20 + B.length) = l := fun l => by
        unfold insSort
        rw [hB]
        rfl
      rw [e40, e0]
      have := merged (by omega) 40 (by omega)
      rw [hB] at this
      exact this
end
end Go.Proofs.Ytpnejhelandclaa.S4
namespace Go.Proofs.Ytpnejhelandclaa.S5
open Go Go.RowKit Go.Proofs.Ytpnejhelandclaa Go.Proofs.YtpnejhelandclaaW.PrintWords Go.Proofs.Ytpnejhelandclaa.EV Go.Proofs.Ytpnejhelandclaa.S2 Go.Proofs.Ytpnejhelandclaa.S3 Go.Proofs.Ytpnejhelandclaa.S4
theorem rdd (l : List Int) (i : Nat) : rd l (i : Int) = l.getD i default := by unfold rd; rw [Int.toNat_natCast]; rfl
theorem wadd (a b : Nat) (h : a + b ≤ 1000000) : wrap64 ((a : Int) + (b : Int)) = ((a + b : Nat) : Int) := by unfold wrap64; omega
theorem wsub (a b : Nat) (h : b ≤ a) (h' : a ≤ 1000000) : wrap64 ((a : Int) - (b : Int)) = ((a - b : Nat) : Int) := by unfold wrap64; omega
theorem wone (a : Nat) (h : a ≤ 1000000) : wrap64 ((a : Int) + 1) = ((a + 1 : Nat) : Int) := by unfold wrap64; omega
theorem wpre (a : Nat) (h : a ≤ 1000000) : wrap64 (((a + 1 : Nat) : Int) - 1) = (a : Int) := by unfold wrap64; omega
theorem half (a b : Nat) (h : a + b ≤ 1000000) : wrap64 ((IntKind.u64.wrap (wrap64 ((a : Int) + (b : Int)))) / 2) = (((a + b) / 2 : Nat) : Int) := by
  rw [wadd a b h, L1.u64w_id _ (by omega) (by omega)]
  unfold wrap64
  omega
theorem swap_set (l : List Int) (i j : Nat) : (l.set (i : Int).toNat (rd l (j : Int))).set (j : Int).toNat (rd l (i : Int)) = swap1 l i j := by
  unfold swap1
  rw [rdd, rdd, Int.toNat_natCast, Int.toNat_natCast]
def In (p : Int → Prop) (n : Nat) (l : List Int) : Prop := l.length = n ∧ ∀ e ∈ l, p e
section
variable {p : Int → Prop} {n : Nat} {l : List Int}
theorem In.get (h : In p n l) {i : Nat} (hi : i < n) : p (l.getD i default) := h.2 _ (getD_mem (by rw [h.1]; exact hi))
theorem In.swap (h : In p n l) {i j : Nat} (hi : i < n) (hj : j < n) : In p n (swap1 l i j) := by
  unfold swap1
  refine ⟨by rw [List.length_set, List.length_set]; exact h.1, fun e he => ?_⟩
  rcases List.mem_or_eq_of_mem_set he with he | rfl
  · rcases List.mem_or_eq_of_mem_set he with he | rfl
    · exact h.2 e he
    · exact h.get hj
  · exact h.get hi
theorem In.swapR (h : In p n l) {a b : Nat} : ∀ (q : Nat), a + q ≤ n → b + q ≤ n → In p n (swapR l a b q)
  | 0, _, _ => h
  | q + 1, ha, hb => (In.swapR h q (by omega) (by omega)).swap (by omega) (by omega)
end
theorem swapR_ev {p : Int → Prop} {n : Nat} (l : List Int) (a b q : Nat) (z : Int) (h : In p n l) (ha : a + q ≤ n) (hb : b + q ≤ n) (hn : n ≤ 1000) : Ev (fun k => SB.slices_swapRangeCmpFunc_int.f k l a b q z) (swapR l a b q) := by
  unfold SB.slices_swapRangeCmpFunc_int.f
  have key : ∀ (d i : Nat), q - i = d → i ≤ q → Ev (fun k => SB.slices_swapRangeCmpFunc_int.l0 k (swapR l a b i) a b q (i : Int)) (swapR l a b q) := by
    intro d
    induction d with
    | zero =>
      intro i hd hi
      obtain rfl : i = q := by omega
      exact Ev_one fun k => by
        simp only [SB.slices_swapRangeCmpFunc_int.l0]
        rw [if_neg (by omega)]
    | succ d ih =>
      intro i hd hi
      refine Ev.step (f := fun k => SB.slices_swapRangeCmpFunc_int.l0 k (swapR l a b (i + 1)) a b q ((i + 1 : Nat) : Int)) (fun k => ?_) (ih (i + 1) (by omega) (by omega))
      have hlen := (h.swapR (a := a) (b := b) i (by omega) (by omega)).1
      simp only [SB.slices_swapRangeCmpFunc_int.l0]
      rw [if_pos (by omega), wadd b i (by omega), wadd a i (by omega), wone i (by omega), if_pos (by omega), if_pos (by omega), if_pos (by omega), if_pos (by omega), swap_set]
      rfl
  exact key q 0 (by omega) (by omega)
theorem rot_ev {p : Int → Prop} {n : Nat} (hn : n ≤ 1000) (z : Int) : ∀ (k : Nat) (l : List Int) (m i j : Nat), In p n l → i + j ≤ k → 0 < i → 0 < j → i ≤ m → m + j ≤ n → In p n (rot l m k i j) ∧ Ev (fun f => SB.slices_rotateCmpFunc_int.l0 f l m z i j) (rot l m k i j)
  | 0, l, m, i, j, h, hk, hi, hj, hm, hl => by omega
  | k + 1, l, m, i, j, h, hk, hi, hj, hm, hl => by
    by_cases e : i = j
    · subst e
      rw [rot, if_pos rfl]
      refine ⟨h.swapR _ (by omega) (by omega), ?_⟩
      refine Ev.step (f := fun f => (SB.slices_swapRangeCmpFunc_int.f f l ((m - i : Nat) : Int) m i z).bind fun t => some t) (fun f => ?_) (Ev_bind (swapR_ev l (m - i) m i z h (by omega) (by omega) hn) (Ev.now _))
      simp only [SB.slices_rotateCmpFunc_int.l0]
      rw [if_pos trivial, wsub m i (by omega) (by omega)]
    · rw [rot, if_neg e]
      by_cases g : i > j
      · rw [if_pos g]
        have hs := h.swapR (a := m - i) (b := m) j (by omega) (by omega)
        have ih := rot_ev hn z k _ m (i - j) j hs (by omega) (by omega) (by omega) (by omega) (by omega)
        refine ⟨ih.1, ?_⟩
        refine Ev.step (f := fun f => (SB.slices_swapRangeCmpFunc_int.f f l ((m - i : Nat) : Int) m j z).bind fun t => SB.slices_rotateCmpFunc_int.l0 f t m z ((i - j : Nat) : Int) j) (fun f => ?_) (Ev_bind (swapR_ev l (m - i) m j z h (by omega) (by omega) hn) ih.2)
        simp only [SB.slices_rotateCmpFunc_int.l0]
        rw [if_neg (by omega), if_pos (by omega), wsub m i (by omega) (by omega), wsub i j (by omega) (by omega)]
      · rw [if_neg g]
        have hs := h.swapR (a := m - i) (b := m + j - i) i (by omega) (by omega)
        have ih := rot_ev hn z k _ m i (j - i) hs (by omega) (by omega) (by omega) (by omega) (by omega)
        refine ⟨ih.1, ?_⟩
        refine Ev.step (f := fun f => (SB.slices_swapRangeCmpFunc_int.f f l ((m - i : Nat) : Int) ((m + j - i : Nat) : Int) i z).bind fun t => SB.slices_rotateCmpFunc_int.l0 f t m z i ((j - i : Nat) : Int)) (fun f => ?_) (Ev_bind (swapR_ev l (m - i) (m + j - i) i z h (by omega) (by omega) hn) ih.2)
        simp only [SB.slices_rotateCmpFunc_int.l0]
        rw [if_neg (by omega), if_neg (by omega), wsub m i (by omega) (by omega), wadd m j (by omega), wsub (m + j) i (by omega) (by omega), wsub j i (by omega) (by omega)]
def CmpOk (c : X1.Cmp) (cb : Int → Int → Bool) (p : Int → Prop) : Prop := ∀ x y, p x → p y → ∃ t, c x y = some t ∧ (t < 0 ↔ cb x y = true)
section
variable {c : X1.Cmp} {cb : Int → Int → Bool} {p : Int → Prop} {n : Nat}
theorem CmpOk.yes (hc : CmpOk c cb p) {x y : Int} (hx : p x) (hy : p y) (e : cb x y = true) {β : Type} (A B : Option β) : ((c x y).bind fun t => if t < 0 then A else B) = A := by
  obtain ⟨t, ht, hi⟩ := hc x y hx hy
  rw [ht, Option.bind_some, if_pos (hi.2 e)]
theorem CmpOk.no (hc : CmpOk c cb p) {x y : Int} (hx : p x) (hy : p y) (e : ¬ cb x y = true) {β : Type} (A B : Option β) : ((c x y).bind fun t => if t < 0 then A else B) = B := by
  obtain ⟨t, ht, hi⟩ := hc x y hx hy
  rw [ht, Option.bind_some, if_neg (fun h => e (hi.1 h))]
theorem In.insJ {a : Nat} : ∀ (d : Nat) {l : List Int}, In p n l → a + d < n → In p n (insJ cb a d l)
  | 0, l, h, _ => h
  | d + 1, l, h, hd => by
    rw [S4.insJ]
    split
    · exact In.insJ d (h.swap (by omega) (by omega)) (by omega)
    · exact h
theorem In.insI {a : Nat} {l : List Int} (h : In p n l) : ∀ (r : Nat), a + r < n → In p n (insI cb a r l)
  | 0, _ => h
  | r + 1, hr => In.insJ (r + 1) (In.insI h r (by omega)) hr
theorem insJ_ev (hc : CmpOk c cb p) (hn : n ≤ 1000) (a : Nat) (b i : Int) : ∀ (d j : Nat) (l R : List Int), j = a + d → In p n l → a + d < n → Ev (fun k => SB.slices_insertionSortCmpFunc_int.l0 k (insJ cb a d l) a b c (wrap64 (i + 1))) R → Ev (fun k => SB.slices_insertionSortCmpFunc_int.l1 k l a b c i (j : Int)) R
  | 0, j, l, R, e, h, hd, hr => Ev.step (fun k => by
      simp only [SB.slices_insertionSortCmpFunc_int.l1]
      rw [if_neg (by omega)]
      rfl) hr
  | d + 1, j, l, R, e, h, hd, hr => by
    obtain rfl : j = a + d + 1 := by omega
    rw [S4.insJ] at hr
    have hl := h.1
    by_cases g : cb (l.getD (a + d + 1) default) (l.getD (a + d) default) = true
    · rw [if_pos g] at hr
      refine Ev.step (f := fun k => SB.slices_insertionSortCmpFunc_int.l1 k (swap1 l (a + d + 1) (a + d)) a b c i ((a + d : Nat) : Int)) (fun k => ?_) (insJ_ev hc hn a b i d (a + d) _ R rfl (h.swap (by omega) (by omega)) (by omega) hr)
      simp only [SB.slices_insertionSortCmpFunc_int.l1]
      rw [if_pos (by omega), if_pos (by omega), if_pos (by omega), wpre (a + d) (by omega), if_pos (by omega), if_pos (by omega), swap_set, rdd, rdd, hc.yes (h.get (by omega)) (h.get (by omega)) g]
    · rw [if_neg g] at hr
      refine Ev.step (fun k => ?_) hr
      simp only [SB.slices_insertionSortCmpFunc_int.l1]
      rw [if_pos (by omega), if_pos (by omega), if_pos (by omega), wpre (a + d) (by omega), if_pos (by omega), if_pos (by omega), rdd, rdd, hc.no (h.get (by omega)) (h.get (by omega)) g]
theorem ins_ev (hc : CmpOk c cb p) (hn : n ≤ 1000) (l : List Int) (h : In p n l) (a b : Nat) (hab : a ≤ b) (hb : b ≤ n) : Ev (fun k => SB.slices_insertionSortCmpFunc_int.f k l a b c) (insSort cb l a b) := by
  unfold SB.slices_insertionSortCmpFunc_int.f insSort
  have key : ∀ (d r : Nat), b - (a + r + 1) = d → a + r + 1 ≤ b → Ev (fun k => SB.slices_insertionSortCmpFunc_int.l0 k (insI cb a r l) a b c ((a + r + 1 : Nat) : Int)) (insI cb a (b - a - 1) l) := by
    intro d
    induction d with
    | zero =>
      intro r hd hr
      have e : b - a - 1 = r := by omega
      rw [e]
      exact Ev_one fun k => by
        simp only [SB.slices_insertionSortCmpFunc_int.l0]
        rw [if_neg (by omega)]
    | succ d ih =>
      intro r hd hr
      have hi := h.insI (cb := cb) (a := a) r (by omega)
      refine Ev.step (f := fun k => SB.slices_insertionSortCmpFunc_int.l1 k (insI cb a r l) a b c ((a + r + 1 : Nat) : Int) ((a + r + 1 : Nat) : Int)) (fun k => ?_) (insJ_ev hc hn a b _ (r + 1) (a + r + 1) _ _ (by omega) hi (by omega) ?_)
      · simp only [SB.slices_insertionSortCmpFunc_int.l0]
        rw [if_pos (by omega)]
      · rw [wone (a + r + 1) (by omega)]
        exact ih (r + 1) (by omega) (by omega)
  by_cases g : a + 1 ≤ b
  · rw [wone a (by omega)]
    exact key _ 0 rfl (by omega)
  · have e : b - a - 1 = 0 := by omega
    rw [e, wone a (by omega)]
    exact Ev_one fun k => by
      simp only [SB.slices_insertionSortCmpFunc_int.l0]
      rw [if_neg (by omega)]
      rfl
theorem In.insSort {l : List Int} (h : In p n l) (a b : Nat) (hab : a < b ∨ b ≤ a ∧ a < n) (hb : b ≤ n) : In p n (insSort cb l a b) := by
  unfold S4.insSort
  exact h.insI _ (by omega)
theorem bs_range (P : Nat → Bool) : ∀ (k s r : Nat), s ≤ r → s ≤ bs P k s r ∧ bs P k s r ≤ r
  | 0, s, r, h => ⟨Nat.le_refl _, h⟩
  | k + 1, s, r, h => by
    rw [bs]
    split
    · split
      · have := bs_range P k ((s + r) / 2 + 1) r (by omega)
        omega
      · have := bs_range P k s ((s + r) / 2) (by omega)
        omega
    · omega
theorem In.up {l : List Int} (h : In p n l) : ∀ (d q : Nat), q + d < n → In p n (up l q d)
  | 0, _, _ => h
  | d + 1, q, hq => In.up (h.swap (i := q) (j := q + 1) (by omega) (by omega)) d (q + 1) (by omega)
theorem In.down {l : List Int} (h : In p n l) : ∀ (d q : Nat), q < n → d ≤ q → In p n (down l q d)
  | 0, _, _, _ => h
  | d + 1, q, hq, hd => In.down (h.swap (i := q) (j := q - 1) (by omega) (by omega)) d (q - 1) (by omega) (by omega)
theorem up_ev (hn : n ≤ 1000) (i : Nat) : ∀ (d q : Nat) (l : List Int), i = q + 1 + d → In p n l → i ≤ n → Ev (fun k => SB.slices_symMergeCmpFunc_int.l1 k l i q) (up l q d)
  | 0, q, l, e, h, hi => Ev_one fun k => by
      simp only [SB.slices_symMergeCmpFunc_int.l1]
      rw [e, wpre q (by omega), if_neg (by omega)]
      rfl
  | d + 1, q, l, e, h, hi => by
    have hl := h.1
    refine Ev.step (f := fun k => SB.slices_symMergeCmpFunc_int.l1 k (swap1 l q (q + 1)) i ((q + 1 : Nat) : Int)) (fun k => ?_) (up_ev hn i d (q + 1) _ (by omega) (h.swap (by omega) (by omega)) hi)
    obtain ⟨i', rfl⟩ : ∃ i', i = i' + 1 := ⟨i - 1, by omega⟩
    simp only [SB.slices_symMergeCmpFunc_int.l1]
    rw [wpre i' (by omega), if_pos (by omega), wone q (by omega), if_pos (by omega), if_pos (by omega), if_pos (by omega), if_pos (by omega), swap_set]
theorem down_ev (hn : n ≤ 1000) (i : Nat) : ∀ (d q : Nat) (l : List Int), q = i + d → In p n l → q < n → Ev (fun k => SB.slices_symMergeCmpFunc_int.l3 k l i q) (down l q d)
  | 0, q, l, e, h, hi => Ev_one fun k => by
      simp only [SB.slices_symMergeCmpFunc_int.l3]
      rw [if_neg (by omega)]
      rfl
  | d + 1, q, l, e, h, hi => by
    have hl := h.1
    obtain ⟨q', rfl⟩ : ∃ q', q = q' + 1 := ⟨q - 1, by omega⟩
    refine Ev.step (f := fun k => SB.slices_symMergeCmpFunc_int.l3 k (swap1 l (q' + 1) q') i (q' : Int)) (fun k => ?_) (down_ev hn i d q' _ (by omega) (h.swap (by omega) (by omega)) (by omega))
    simp only [SB.slices_symMergeCmpFunc_int.l3]
    rw [if_pos (by omega), wpre q' (by omega), if_pos (by omega), if_pos (by omega), if_pos (by omega), if_pos (by omega), swap_set]
theorem srch0 (hc : CmpOk c cb p) (hn : n ≤ 1000) (l R : List Int) (a : Nat) (h : In p n l) (ha : a < n) : ∀ (f s r : Nat), r - s ≤ f → s ≤ r → r ≤ n →
    Ev (fun k => SB.slices_symMergeCmpFunc_int.l1 k l ((bs (fun q => cb (l.getD q default) (l.getD a default)) f s r : Nat) : Int) a) R → Ev (fun k => SB.slices_symMergeCmpFunc_int.l0 k l a c s r) R
  | 0, s, r, hf, hs, hr, hR => Ev.step (fun k => by
      simp only [SB.slices_symMergeCmpFunc_int.l0]
      rw [if_neg (by omega)]
      rfl) hR
  | f + 1, s, r, hf, hs, hr, hR => by
    have hl := h.1
    rw [bs] at hR
    by_cases g : s < r
    · rw [if_pos g] at hR
      by_cases e : cb (l.getD ((s + r) / 2) default) (l.getD a default) = true
      · rw [if_pos e] at hR
        refine Ev.step (fun k => ?_) (srch0 hc hn l R a h ha f ((s + r) / 2 + 1) r (by omega) (by omega) hr hR)
        simp only [SB.slices_symMergeCmpFunc_int.l0]
        rw [if_pos (by omega), half s r (by omega), if_pos (by omega), if_pos (by omega), if_pos (by omega), if_pos (by omega), rdd, rdd, hc.yes (h.get (by omega)) (h.get ha) e, wone _ (by omega)]
      · rw [if_neg e] at hR
        refine Ev.step (fun k => ?_) (srch0 hc hn l R a h ha f s ((s + r) / 2) (by omega) (by omega) (by omega) hR)
        simp only [SB.slices_symMergeCmpFunc_int.l0]
        rw [if_pos (by omega), half s r (by omega), if_pos (by omega), if_pos (by omega), if_pos (by omega), if_pos (by omega), rdd, rdd, hc.no (h.get (by omega)) (h.get ha) e]
    · rw [if_neg g] at hR
      refine Ev.step (fun k => ?_) hR
      simp only [SB.slices_symMergeCmpFunc_int.l0]
      rw [if_neg (by omega)]
theorem srch2 (hc : CmpOk c cb p) (hn : n ≤ 1000) (l R : List Int) (m : Nat) (h : In p n l) (hm : m < n) : ∀ (f s r : Nat), r - s ≤ f → s ≤ r → r ≤ n →
    Ev (fun k => SB.slices_symMergeCmpFunc_int.l3 k l ((bs (fun q => !cb (l.getD m default) (l.getD q default)) f s r : Nat) : Int) m) R → Ev (fun k => SB.slices_symMergeCmpFunc_int.l2 k l m c s r) R
  | 0, s, r, hf, hs, hr, hR => Ev.step (fun k => by
      simp only [SB.slices_symMergeCmpFunc_int.l2]
      rw [if_neg (by omega)]
      rfl) hR
  | f + 1, s, r, hf, hs, hr, hR => by
    have hl := h.1
    rw [bs] at hR
    by_cases g : s < r
    · rw [if_pos g] at hR
      by_cases e : cb (l.getD m default) (l.getD ((s + r) / 2) default) = true
      · rw [if_neg (by rw [e]; decide)] at hR
        refine Ev.step (fun k => ?_) (srch2 hc hn l R m h hm f s ((s + r) / 2) (by omega) (by omega) (by omega) hR)
        simp only [SB.slices_symMergeCmpFunc_int.l2]
        rw [if_pos (by omega), half s r (by omega), if_pos (by omega), if_pos (by omega), if_pos (by omega), if_pos (by omega), rdd, rdd, hc.yes (h.get hm) (h.get (by omega)) e]
      · rw [if_pos (by rw [Bool.eq_false_iff.2 e]; decide)] at hR
        refine Ev.step (fun k => ?_) (srch2 hc hn l R m h hm f ((s + r) / 2 + 1) r (by omega) (by omega) hr hR)
        simp only [SB.slices_symMergeCmpFunc_int.l2]
        rw [if_pos (by omega), half s r (by omega), if_pos (by omega), if_pos (by omega), if_pos (by omega), if_pos (by omega), rdd, rdd, hc.no (h.get hm) (h.get (by omega)) e, wone _ (by omega)]
    · rw [if_neg g] at hR
      refine Ev.step (fun k => ?_) hR
      simp only [SB.slices_symMergeCmpFunc_int.l2]
      rw [if_neg (by omega)]
theorem srch4 (hc : CmpOk c cb p) (hn : n ≤ 1000) (l R : List Int) (a m b mid N P : Nat) (h : In p n l) (hP : P ≤ 2000) : ∀ (f s r : Nat), r - s ≤ f → s ≤ r → r ≤ n → (∀ q, s ≤ q → q < r → q ≤ P ∧ P - q < n) →
    (∀ t, t = bs (fun q => !cb (l.getD (P - q) default) (l.getD q default)) f s r → Ev (fun k => if (t : Int) < (m : Int) then (SB.slices_symMergeCmpFunc_int.j6 k l a m b c mid t (wrap64 ((N : Int) - (t : Int))) (decide ((m : Int) < (wrap64 ((N : Int) - (t : Int)))))) else (SB.slices_symMergeCmpFunc_int.j6 k l a m b c mid t (wrap64 ((N : Int) - (t : Int))) false)) R) → Ev (fun k => SB.slices_symMergeCmpFunc_int.l4 k l a m b c mid N s r P) R
  | 0, s, r, hf, hs, hr, hq, hR => Ev.step (fun k => by
      simp only [SB.slices_symMergeCmpFunc_int.l4]
      rw [if_neg (by omega)]) (hR s rfl)
  | f + 1, s, r, hf, hs, hr, hq, hR => by
    have hl := h.1
    rw [bs] at hR
    by_cases g : s < r
    · rw [if_pos g] at hR
      have hh := hq ((s + r) / 2) (by omega) (by omega)
      by_cases e : cb (l.getD (P - (s + r) / 2) default) (l.getD ((s + r) / 2) default) = true
      · rw [if_neg (by rw [e]; decide)] at hR
        refine Ev.step (fun k => ?_) (srch4 hc hn l R a m b mid N P h hP f s ((s + r) / 2) (by omega) (by omega) (by omega) (fun q h1 h2 => hq q h1 (by omega)) hR)
        simp only [SB.slices_symMergeCmpFunc_int.l4]
        rw [if_pos (by omega), half s r (by omega), wsub P _ hh.1 (by omega), if_pos (by omega), if_pos (by omega), if_pos (by omega), if_pos (by omega), rdd, rdd, hc.yes (h.get hh.2) (h.get (by omega)) e]
      · rw [if_pos (by rw [Bool.eq_false_iff.2 e]; decide)] at hR
        refine Ev.step (fun k => ?_) (srch4 hc hn l R a m b mid N P h hP f ((s + r) / 2 + 1) r (by omega) (by omega) hr (fun q h1 h2 => hq q (by omega) h2) hR)
        simp only [SB.slices_symMergeCmpFunc_int.l4]
        rw [if_pos (by omega), half s r (by omega), wsub P _ hh.1 (by omega), if_pos (by omega), if_pos (by omega), if_pos (by omega), if_pos (by omega), rdd, rdd, hc.no (h.get hh.2) (h.get (by omega)) e, wone _ (by omega)]
    · rw [if_neg g] at hR
      refine Ev.step (fun k => ?_) (hR s rfl)
      simp only [SB.slices_symMergeCmpFunc_int.l4]
      rw [if_neg (by omega)]
end
end Go.Proofs.Ytpnejhelandclaa.S5
namespace Go.Proofs.Ytpnejhelandclaa.S6
open Go Go.RowKit Go.Proofs.Ytpnejhelandclaa Go.Proofs.YtpnejhelandclaaW.PrintWords Go.Proofs.Ytpnejhelandclaa.EV Go.Proofs.Ytpnejhelandclaa.S2 Go.Proofs.Ytpnejhelandclaa.S3 Go.Proofs.Ytpnejhelandclaa.S4 Go.Proofs.Ytpnejhelandclaa.S5
section
variable {c : X1.Cmp} {cb : Int → Int → Bool} {p : Int → Prop} {n : Nat}
def last2 (cb : Int → Int → Bool) (K : Nat) (l : List Int) (a s mid e b : Nat) : List Int :=
  let l2 := if a < s ∧ s < mid then symM cb K l a s mid else l
  if mid < e ∧ e < b then symM cb K l2 mid e b else l2
theorem j8_ev (K : Nat) (ih : ∀ (l : List Int) (a m b : Nat), In p n l → b - a ≤ K → a < m → m < b → b ≤ n → In p n (symM cb K l a m b) ∧ Ev (fun k => SB.slices_symMergeCmpFunc_int.f k l a m b c) (symM cb K l a m b))
    (l : List Int) (h : In p n l) (a s mid e b : Nat) (h1 : mid - a ≤ K) (h2 : b - mid ≤ K) (h3 : b ≤ n) (h4 : mid ≤ n) :
    In p n (last2 cb K l a s mid e b) ∧ Ev (fun k => SB.slices_symMergeCmpFunc_int.j7 k l a b c mid s e) (last2 cb K l a s mid e b) := by
  have tail : ∀ l2 : List Int, In p n l2 → In p n (if mid < e ∧ e < b then symM cb K l2 mid e b else l2) ∧
      Ev (fun k => if (mid : Int) < (e : Int) then (if (e : Int) < (b : Int) then ((SB.slices_symMergeCmpFunc_int.f k l2 mid e b c).bind fun t => some t) else some l2) else some l2) (if mid < e ∧ e < b then symM cb K l2 mid e b else l2) := by
    intro l2 hl2
    by_cases g : mid < e
    · by_cases g2 : e < b
      · rw [if_pos ⟨g, g2⟩]
        have := ih l2 mid e b hl2 h2 g g2 h3
        exact ⟨this.1, Ev.congr (fun k => by rw [if_pos (by omega), if_pos (by omega)]) (Ev_bind this.2 (Ev.now _))⟩
      · rw [if_neg (fun x => g2 x.2)]
        exact ⟨hl2, Ev_all_k fun k => by rw [if_pos (by omega), if_neg (by omega)]⟩
    · rw [if_neg (fun x => g x.1)]
      exact ⟨hl2, Ev_all_k fun k => by rw [if_neg (by omega)]⟩
  unfold last2
  dsimp only
  by_cases g : a < s ∧ s < mid
  · rw [if_pos g]
    have h5 := ih l a s mid h h1 g.1 g.2 h4
    have t := tail _ h5.1
    refine ⟨t.1, ?_⟩
    refine Ev.step (f := fun k => SB.slices_symMergeCmpFunc_int.j8 k l a b c mid s e true) (fun k => ?_) (Ev.step (f := fun k => (SB.slices_symMergeCmpFunc_int.f k l a s mid c).bind fun t234 => (if (mid : Int) < (e : Int) then (if (e : Int) < (b : Int) then ((SB.slices_symMergeCmpFunc_int.f k t234 mid e b c).bind fun t => some t) else some t234) else some t234)) (fun k => ?_) (Ev_bind h5.2 t.2))
    · simp only [SB.slices_symMergeCmpFunc_int.j7]
      rw [if_pos (by omega), decide_eq_true (by omega : (s : Int) < (mid : Int))]
    · simp only [SB.slices_symMergeCmpFunc_int.j8]
      rw [if_pos trivial]
  · rw [if_neg g]
    have t := tail _ h
    refine ⟨t.1, ?_⟩
    refine Ev.step (f := fun k => SB.slices_symMergeCmpFunc_int.j8 k l a b c mid s e false) (fun k => ?_) (Ev.step (f := fun k => (if (mid : Int) < (e : Int) then (if (e : Int) < (b : Int) then ((SB.slices_symMergeCmpFunc_int.f k l mid e b c).bind fun t => some t) else some l) else some l)) (fun k => ?_) t.2)
    · simp only [SB.slices_symMergeCmpFunc_int.j7]
      by_cases q : a < s
      · rw [if_pos (by omega), decide_eq_false (by omega : ¬ (s : Int) < (mid : Int))]
      · rw [if_neg (by omega)]
    · simp only [SB.slices_symMergeCmpFunc_int.j8]
      rw [if_neg (by decide)]
theorem symM_ev (hc : CmpOk c cb p) (hn : n ≤ 1000) : ∀ (K : Nat) (l : List Int) (a m b : Nat), In p n l → b - a ≤ K → a < m → m < b → b ≤ n → In p n (symM cb K l a m b) ∧ Ev (fun k => SB.slices_symMergeCmpFunc_int.f k l a m b c) (symM cb K l a m b)
  | 0, l, a, m, b, h, hk, h1, h2, h3 => by omega
  | K + 1, l, a, m, b, h, hk, h1, h2, h3 => by
    have hl := h.1
    rw [symM]
    by_cases e1 : m - a = 1
    · rw [if_pos e1]
      have hr := bs_range (fun q => cb (l.getD q default) (l.getD a default)) (b - m) m b (by omega)
      refine ⟨h.up _ _ (by omega), ?_⟩
      refine Ev.step (f := fun k => SB.slices_symMergeCmpFunc_int.l0 k l a c m b) (fun k => ?_) (srch0 hc hn l _ a h (by omega) (b - m) m b (by omega) (by omega) h3 (up_ev hn _ _ a l (by omega) h (by omega)))
      simp only [SB.slices_symMergeCmpFunc_int.f]
      rw [if_pos (by rw [wsub m a (by omega) (by omega)]; omega)]
    · rw [if_neg e1]
      by_cases e2 : b - m = 1
      · rw [if_pos e2]
        have hr := bs_range (fun q => !cb (l.getD m default) (l.getD q default)) (m - a) a m (by omega)
        refine ⟨h.down _ _ (by omega) (by omega), ?_⟩
        refine Ev.step (f := fun k => SB.slices_symMergeCmpFunc_int.l2 k l m c a m) (fun k => ?_) (srch2 hc hn l _ m h (by omega) (m - a) a m (by omega) (by omega) (by omega) (down_ev hn _ _ m l (by omega) h (by omega)))
        simp only [SB.slices_symMergeCmpFunc_int.f]
        rw [if_neg (by rw [wsub m a (by omega) (by omega)]; omega), if_pos (by rw [wsub b m (by omega) (by omega)]; omega)]
      · rw [if_neg e2]
        dsimp only
        obtain ⟨mid, hmid⟩ : ∃ mid, mid = (a + b) / 2 := ⟨_, rfl⟩
        rw [← hmid]
        obtain ⟨s0, hs0⟩ : ∃ s0, s0 = (if m > mid then mid + m - b else a) := ⟨_, rfl⟩
        obtain ⟨r0, hr0⟩ : ∃ r0, r0 = (if m > mid then mid else m) := ⟨_, rfl⟩
        rw [← hs0, ← hr0]
        have b0 : s0 ≤ r0 ∧ r0 ≤ m ∧ r0 ≤ mid ∧ a ≤ s0 ∧ mid + m - s0 ≤ b ∧ r0 - s0 ≤ b - a ∧ (∀ q, s0 ≤ q → q < r0 → q ≤ mid + m - 1 ∧ mid + m - 1 - q < n) := by
          by_cases g : m > mid
          · rw [if_pos g] at hs0 hr0
            exact ⟨by omega, by omega, by omega, by omega, by omega, by omega, fun q q1 q2 => by omega⟩
          · rw [if_neg g] at hs0 hr0
            exact ⟨by omega, by omega, by omega, by omega, by omega, by omega, fun q q1 q2 => by omega⟩
        obtain ⟨b1, b2, b3, b4, b5, b6, b7⟩ := b0
        have hr := bs_range (fun q => !cb (l.getD (mid + m - 1 - q) default) (l.getD q default)) (b - a) s0 r0 b1
        obtain ⟨s, hs⟩ : ∃ s, s = bs (fun q => !cb (l.getD (mid + m - 1 - q) default) (l.getD q default)) (b - a) s0 r0 := ⟨_, rfl⟩
        rw [← hs] at hr ⊢
        have ih := fun (l : List Int) (a m b : Nat) => symM_ev hc hn K l a m b
        -- the rotation
        have rotp : In p n (if s < m ∧ m < mid + m - s then rot l m (b - a) (m - s) (mid - s) else l) ∧ ∀ R, Ev (fun k => SB.slices_symMergeCmpFunc_int.j7 k (if s < m ∧ m < mid + m - s then rot l m (b - a) (m - s) (mid - s) else l) a b c mid s ((mid + m - s : Nat) : Int)) R →
            Ev (fun k => if (s : Int) < (m : Int) then (SB.slices_symMergeCmpFunc_int.j6 k l a m b c mid s (wrap64 (((mid + m : Nat) : Int) - (s : Int))) (decide ((m : Int) < (wrap64 (((mid + m : Nat) : Int) - (s : Int)))))) else (SB.slices_symMergeCmpFunc_int.j6 k l a m b c mid s (wrap64 (((mid + m : Nat) : Int) - (s : Int))) false)) R := by
          rw [wsub (mid + m) s (by omega) (by omega)]
          by_cases g : s < m ∧ m < mid + m - s
          · rw [if_pos g]
            have hrot := rot_ev hn 0 (b - a) l m (m - s) (mid - s) h (by omega) (by omega) (by omega) (by omega) (by omega)
            refine ⟨hrot.1, fun R hR => ?_⟩
            refine Ev.congr (f := fun k => SB.slices_symMergeCmpFunc_int.j6 k l a m b c mid s ((mid + m - s : Nat) : Int) true) (fun k => ?_) (Ev.step (f := fun k => (SB.slices_rotateCmpFunc_int.f k l s m ((mid + m - s : Nat) : Int) 0).bind fun t233 => SB.slices_symMergeCmpFunc_int.j7 k t233 a b c mid s ((mid + m - s : Nat) : Int)) (fun k => ?_) (Ev_bind ?_ hR))
            · rw [if_pos (by omega), decide_eq_true (by omega : (m : Int) < ((mid + m - s : Nat) : Int))]
            · simp only [SB.slices_symMergeCmpFunc_int.j6]
              rw [if_pos trivial]
            · unfold SB.slices_rotateCmpFunc_int.f
              rw [wsub m s (by omega) (by omega), wsub (mid + m - s) m (by omega) (by omega), show mid + m - s - m = mid - s by omega]
              exact hrot.2
          · rw [if_neg g]
            refine ⟨h, fun R hR => ?_⟩
            refine Ev.congr (f := fun k => SB.slices_symMergeCmpFunc_int.j6 k l a m b c mid s ((mid + m - s : Nat) : Int) false) (fun k => ?_) (Ev.step (fun k => ?_) hR)
            · by_cases q : s < m
              · rw [if_pos (by omega), decide_eq_false (by omega : ¬ (m : Int) < ((mid + m - s : Nat) : Int))]
              · rw [if_neg (by omega)]
            · simp only [SB.slices_symMergeCmpFunc_int.j6]
              rw [if_neg (by decide)]
        have fin := j8_ev (c := c) K ih _ rotp.1 a s mid (mid + m - s) b (by omega) (by omega) h3 (by omega)
        refine ⟨fin.1, ?_⟩
        refine Ev.step (f := fun k => SB.slices_symMergeCmpFunc_int.j4 k l a m b c mid ((mid + m : Nat) : Int) s0 r0) (fun k => ?_) (Ev.step (f := fun k => SB.slices_symMergeCmpFunc_int.l4 k l a m b c mid ((mid + m : Nat) : Int) s0 r0 ((mid + m - 1 : Nat) : Int)) (fun k => ?_) (srch4 hc hn l _ a m b mid (mid + m) (mid + m - 1) h (by omega) (b - a) s0 r0 b6 b1 (by omega) b7 (fun t ht => ?_)))
        · simp only [SB.slices_symMergeCmpFunc_int.f]
          rw [if_neg (by rw [wsub m a (by omega) (by omega)]; omega), if_neg (by rw [wsub b m (by omega) (by omega)]; omega), half a b (by omega), ← hmid, wadd mid m (by omega)]
          by_cases g : m > mid
          · rw [if_pos (by omega), wsub (mid + m) b (by omega) (by omega), hs0, hr0, if_pos g, if_pos g]
          · rw [if_neg (by omega), hs0, hr0, if_neg g, if_neg g]
        · simp only [SB.slices_symMergeCmpFunc_int.j4]
          have : wrap64 (((mid + m : Nat) : Int) - 1) = ((mid + m - 1 : Nat) : Int) := by unfold wrap64; omega
          rw [this]
        · obtain rfl : t = s := by rw [ht, hs]
          exact rotp.2 _ fin.2
theorem stb_ev (hc : CmpOk c cb p) (hn : n ≤ 40) (l : List Int) (h : In p n l) : Ev (fun k => SB.slices_stableCmpFunc_int.f k l (n : Int) c) (stb cb l n) := by
  have hn' : n ≤ 1000 := by omega
  unfold SB.slices_stableCmpFunc_int.f stb
  have e20 : wrap64 (20 + 20) = ((40 : Nat) : Int) := by unfold wrap64; omega
  have e40 : wrap64 (((40 : Nat) : Int) + 20) = ((60 : Nat) : Int) := by unfold wrap64; omega
  have e2 : wrap64 (2 * 20) = ((40 : Nat) : Int) := by unfold wrap64; omega
  have e3 : wrap64 (20 * 2) = ((40 : Nat) : Int) := by unfold wrap64; omega
  have e80 : wrap64 (((40 : Nat) : Int) + ((40 : Nat) : Int)) = ((80 : Nat) : Int) := by unfold wrap64; omega
  have e5 : wrap64 ((0 : Int) + 20) = ((20 : Nat) : Int) := by unfold wrap64; omega
  -- behind the blocks
  have done40 : ∀ l : List Int, Ev (fun k => SB.slices_stableCmpFunc_int.l1 k l (n : Int) c ((40 : Nat) : Int)) l := fun l => Ev_one fun k => by
    simp only [SB.slices_stableCmpFunc_int.l1]
    rw [if_neg (by omega)]
  by_cases h20 : n < 20
  · rw [if_pos h20]
    refine Ev.step (f := fun k => (SB.slices_insertionSortCmpFunc_int.f k l 0 n c).bind fun t => SB.slices_stableCmpFunc_int.l1 k t n c 20) (fun k => ?_) (Ev_bind (ins_ev hc hn' l h 0 n (by omega) (by omega)) (Ev_one fun k => ?_))
    · simp only [SB.slices_stableCmpFunc_int.l0]
      rw [if_neg (by omega)]
    · simp only [SB.slices_stableCmpFunc_int.l1]
      rw [if_neg (by omega)]
  · rw [if_neg h20]
    dsimp only
    have s1 := ins_ev hc hn' l h 0 20 (by omega) (by omega)
    have i1 := h.insSort (cb := cb) 0 20 (by omega) (by omega)
    refine Ev.step (f := fun k => (SB.slices_insertionSortCmpFunc_int.f k l 0 ((20 : Nat) : Int) c).bind fun t => SB.slices_stableCmpFunc_int.l0 k t n c 20 20 ((40 : Nat) : Int)) (fun k => ?_) (Ev_bind s1 ?_)
    · simp only [SB.slices_stableCmpFunc_int.l0]
      rw [if_pos (by omega), e20]
      rfl
    · by_cases h40 : n < 40
      · rw [if_pos h40]
        have s2 := ins_ev hc hn' _ i1 20 n (by omega) (by omega)
        refine Ev.step (f := fun k => (SB.slices_insertionSortCmpFunc_int.f k (insSort cb l 0 20) ((20 : Nat) : Int) n c).bind fun t => SB.slices_stableCmpFunc_int.l1 k t n c 20) (fun k => ?_) (Ev_bind s2 ?_)
        · simp only [SB.slices_stableCmpFunc_int.l0]
          rw [if_neg (by omega)]
          rfl
        · by_cases g : 20 < n
          · rw [if_pos g]
            have i2 := i1.insSort (cb := cb) 20 n (by omega) (by omega)
            have s3 := (symM_ev hc hn' n _ 0 20 n i2 (by omega) (by omega) (by omega) (by omega)).2
            refine Ev.step (f := fun k => SB.slices_stableCmpFunc_int.l2 k (insSort cb (insSort cb l 0 20) 20 n) n c 20 0 ((40 : Nat) : Int)) (fun k => ?_) (Ev.step (f := fun k => (SB.slices_symMergeCmpFunc_int.f k (insSort cb (insSort cb l 0 20) 20 n) ((0 : Nat) : Int) ((20 : Nat) : Int) n c).bind fun t => SB.slices_stableCmpFunc_int.l1 k t n c ((40 : Nat) : Int)) (fun k => ?_) (Ev_bind s3 (done40 _)))
            · simp only [SB.slices_stableCmpFunc_int.l1]
              rw [if_pos (by omega), e2]
            · simp only [SB.slices_stableCmpFunc_int.l2]
              rw [if_neg (by omega), e5, if_pos (by omega), e3]
              rfl
          · rw [if_neg g]
            exact Ev_one fun k => by
              simp only [SB.slices_stableCmpFunc_int.l1]
              rw [if_neg (by omega)]
      · rw [if_neg h40]
        obtain rfl : n = 40 := by omega
        have s2 := ins_ev hc hn' _ i1 20 40 (by omega) (by omega)
        have i2 := i1.insSort (cb := cb) 20 40 (by omega) (by omega)
        have s3 := ins_ev hc hn' _ i2 40 40 (by omega) (by omega)
        have i3 : In p 40 (insSort cb (insSort cb (insSort cb l 0 20) 20 40) 40 40) := i2
        have s4 := (symM_ev hc hn' 40 _ 0 20 40 i3 (by omega) (by omega) (by omega) (by omega)).2
        refine Ev.step (f := fun k => (SB.slices_insertionSortCmpFunc_int.f k (insSort cb l 0 20) ((20 : Nat) : Int) ((40 : Nat) : Int) c).bind fun t => SB.slices_stableCmpFunc_int.l0 k t ((40 : Nat) : Int) c 20 ((40 : Nat) : Int) ((60 : Nat) : Int)) (fun k => ?_) (Ev_bind s2 ?_)
        · simp only [SB.slices_stableCmpFunc_int.l0]
          rw [if_pos (by omega), e40]
          rfl
        · refine Ev.step (f := fun k => (SB.slices_insertionSortCmpFunc_int.f k (insSort cb (insSort cb l 0 20) 20 40) ((40 : Nat) : Int) ((40 : Nat) : Int) c).bind fun t => SB.slices_stableCmpFunc_int.l1 k t ((40 : Nat) : Int) c 20) (fun k => ?_) (Ev_bind s3 ?_)
          · simp only [SB.slices_stableCmpFunc_int.l0]
            rw [if_neg (by omega)]
          · refine Ev.step (f := fun k => SB.slices_stableCmpFunc_int.l2 k (insSort cb (insSort cb (insSort cb l 0 20) 20 40) 40 40) ((40 : Nat) : Int) c 20 0 ((40 : Nat) : Int)) (fun k => ?_) (Ev.step (f := fun k => (SB.slices_symMergeCmpFunc_int.f k (insSort cb (insSort cb (insSort cb l 0 20) 20 40) 40 40) ((0 : Nat) : Int) ((20 : Nat) : Int) ((40 : Nat) : Int) c).bind fun t => SB.slices_stableCmpFunc_int.l2 k t ((40 : Nat) : Int) c 20 ((40 : Nat) : Int) ((80 : Nat) : Int)) (fun k => ?_) (Ev_bind s4 (Ev.step (fun k => ?_) (done40 _))))
            · simp only [SB.slices_stableCmpFunc_int.l1]
              rw [if_pos (by omega), e2]
            · simp only [SB.slices_stableCmpFunc_int.l2]
              rw [if_pos (by omega), e5, e2, e80]
              rfl
            · simp only [SB.slices_stableCmpFunc_int.l2]
              rw [if_neg (by omega), e40, if_neg (by omega), e3]
end
end Go.Proofs.Ytpnejhelandclaa.S6
namespace Go.Proofs.Ytpnejhelandclaa.S7
open Go Go.RowKit Go.Proofs.YtpnejhelandclaaW.PrintWords Go.Proofs.Ytpnejhelandclaa.EV Go.Proofs.Ytpnejhelandclaa.S4
def idx (n : Nat) : List Int := (List.range n).map fun i : Nat => (i : Int)
theorem idx_succ (n : Nat) : idx (n + 1) = idx n ++ [(n : Int)] := by unfold idx; rw [List.range_succ, List.map_append]; rfl
theorem idx_length (n : Nat) : (idx n).length = n := by unfold idx; rw [List.length_map, List.length_range]
theorem mem_idx {n : Nat} {x : Int} : x ∈ idx n ↔ 0 ≤ x ∧ x < n := by
  unfold idx
  rw [List.mem_map]
  constructor
  · rintro ⟨a, ha, rfl⟩
    rw [List.mem_range] at ha
    omega
  · intro h
    exact ⟨x.toNat, by rw [List.mem_range]; omega, by omega⟩
theorem idx_asc (n : Nat) : (idx n).Pairwise (fun x y => x < y) := by
  unfold idx
  rw [List.pairwise_map]
  exact List.Pairwise.imp (fun h => by omega) List.pairwise_lt_range
section
variable (f : Int → Int)
def lt (a b : Int) : Prop := f b < f a ∨ (f a = f b ∧ a < b)
instance : DecidableRel (lt f) := fun a b => by unfold lt; exact inferInstance
def cb (a b : Int) : Bool := decide (f b < f a)
theorem lt_trans {x y z : Int} (h : lt f x y) (h' : lt f y z) : lt f x z := by unfold lt at *; omega
theorem lt_total {x y : Int} (h : x < y) : lt f y x ∨ lt f x y := by unfold lt; omega
theorem lt_not {x y : Int} (h : lt f x y) (h' : lt f y x) : False := by unfold lt at *; omega
def ord (n : Nat) : List Int := stb (cb f) (idx n) n
theorem ord_ok {n : Nat} (hn : n ≤ 40) : (ord f n).Perm (idx n) ∧ (ord f n).Pairwise (lt f) := by
  have h := stb_ok (lt f) (cb f) (fun a b => lt_trans f a b) (idx n) (by rw [idx_length]; exact hn)
    ((idx_asc n).imp fun h => lt_total f h)
    ((idx_asc n).imp fun {a b} h => by
      unfold cb lt
      rw [decide_eq_true_iff]
      omega)
  rw [idx_length] at h
  exact h
theorem ord_unique {n : Nat} (hn : n ≤ 40) {l : List Int} (hp : l.Perm (idx n)) (hl : l.Pairwise (lt f)) : l = ord f n := by
  have h := ord_ok f hn
  have key : ∀ (a b : List Int), a.Perm b → a.Pairwise (lt f) → b.Pairwise (lt f) → a = b := by
    intro a
    induction a with
    | nil => intro b hp _ _; exact (List.nil_perm.1 hp).symm
    | cons x a ih =>
      intro b hp ha hb
      cases b with
      | nil => exact absurd hp.length_eq (by simp)
      | cons y b =>
        have ha' := List.pairwise_cons.1 ha
        have hb' := List.pairwise_cons.1 hb
        have e : x = y := by
          apply Classical.byContradiction
          intro hne
          have hx : x ∈ b := by
            rcases List.mem_cons.1 (hp.mem_iff.1 (List.mem_cons_self ..)) with h | h
            · exact absurd h hne
            · exact h
          have hy : y ∈ a := by
            rcases List.mem_cons.1 (hp.mem_iff.2 (List.mem_cons_self ..)) with h | h
            · exact absurd h.symm hne
            · exact h
          exact lt_not f (ha'.1 y hy) (hb'.1 x hx)
        subst e
        rw [ih b ((List.perm_cons x).1 hp) ha'.2 hb'.2]
  exact key l (ord f n) (hp.trans h.1.symm) hl h.2
def pos (r : Int) (out : List Int) : Nat → Nat
  | 0 => 0
  | k + 1 => if f (out.getD k 0) < r then pos r out k else k + 1
theorem pos_ok (r : Int) (out : List Int) : ∀ k, pos f r out k ≤ k ∧ (∀ j, pos f r out k ≤ j → j < k → f (out.getD j 0) < r) ∧ (0 < pos f r out k → ¬ f (out.getD (pos f r out k - 1) 0) < r)
  | 0 => ⟨Nat.le_refl _, fun j h1 h2 => by omega, fun h => by simp [pos] at h⟩
  | k + 1 => by
    unfold pos
    by_cases h : f (out.getD k 0) < r
    · rw [if_pos h]
      obtain ⟨h1, h2, h3⟩ := pos_ok r out k
      refine ⟨by omega, fun j g1 g2 => ?_, h3⟩
      by_cases e : j = k
      · rw [e]; exact h
      · exact h2 j g1 (by omega)
    · rw [if_neg h]
      exact ⟨Nat.le_refl _, fun j g1 g2 => by omega, fun _ => h⟩
def ins (i : Int) (out : List Int) : List Int := out.take (pos f (f i) out out.length) ++ [i] ++ out.drop (pos f (f i) out out.length)
theorem ins_perm (i : Int) (out : List Int) : (ins f i out).Perm (out ++ [i]) := by
  unfold ins
  rw [List.append_assoc, List.singleton_append]
  refine List.perm_middle.trans ?_
  rw [List.take_append_drop]
  exact (List.perm_append_singleton i out).symm
theorem ins_pw (i : Int) (out : List Int) (h : out.Pairwise (lt f)) (hi : ∀ x ∈ out, x < i) : (ins f i out).Pairwise (lt f) := by
  obtain ⟨p1, p2, p3⟩ := pos_ok f (f i) out out.length
  unfold ins
  generalize pos f (f i) out out.length = q at *
  have hs := List.pairwise_append.1 (show (out.take q ++ out.drop q).Pairwise (lt f) by rw [List.take_append_drop]; exact h)
  have hB : ∀ y ∈ out.drop q, lt f i y := by
    intro y hy
    obtain ⟨j, hj, rfl⟩ := List.getElem_of_mem hy
    rw [List.length_drop] at hj
    have := p2 (q + j) (by omega) (by omega)
    rw [List.getD_eq_getElem?_getD, List.getElem?_eq_getElem (by omega : q + j < out.length)] at this
    left
    rw [List.getElem_drop]
    exact this
  have hA : ∀ x ∈ out.take q, lt f x i := by
    intro x hx
    obtain ⟨j, hj, rfl⟩ := List.getElem_of_mem hx
    rw [List.length_take] at hj
    have hq : 0 < q := by omega
    have hz := p3 hq
    rw [List.getD_eq_getElem?_getD, List.getElem?_eq_getElem (by omega : q - 1 < out.length)] at hz
    have hz' : ¬ f out[q - 1] < f i := hz
    have hm := hi out[j] (List.getElem_mem _)
    rw [List.getElem_take]
    have hr : f out[q - 1] ≤ f out[j] := by
      by_cases e : j = q - 1
      · subst e; exact Int.le_refl _
      · have := (List.pairwise_iff_getElem.1 h) j (q - 1) (by omega) (by omega) (by omega)
        unfold lt at this
        omega
    unfold lt
    omega
  rw [List.append_assoc, List.singleton_append]
  refine List.pairwise_append.2 ⟨hs.1, List.pairwise_cons.2 ⟨hB, hs.2.1⟩, fun x hx y hy => ?_⟩
  rcases List.mem_cons.1 hy with rfl | hy
  · exact hA x hx
  · exact hs.2.2 x hx y hy
def specO : Nat → List Int
  | 0 => []
  | i + 1 => ins f i (specO i)
theorem specO_ok : ∀ i, (specO f i).Perm (idx i) ∧ (specO f i).Pairwise (lt f)
  | 0 => ⟨List.Perm.refl _, List.Pairwise.nil⟩
  | i + 1 => by
    obtain ⟨h1, h2⟩ := specO_ok i
    refine ⟨?_, ins_pw f i _ h2 fun x hx => (mem_idx.1 (h1.mem_iff.1 hx)).2⟩
    rw [idx_succ]
    exact (ins_perm f i _).trans (h1.append_right _)
theorem specO_ord {n : Nat} (hn : n ≤ 40) : specO f n = ord f n := ord_unique f hn (specO_ok f n).1 (specO_ok f n).2
theorem ord_length {n : Nat} (hn : n ≤ 40) : (ord f n).length = n := by rw [(ord_ok f hn).1.length_eq, idx_length]
theorem specO_length (n : Nat) : (specO f n).length = n := by rw [(specO_ok f n).1.length_eq, idx_length]
theorem specO_mem {n : Nat} {x : Int} : x ∈ specO f n ↔ 0 ≤ x ∧ x < n := by rw [(specO_ok f n).1.mem_iff, mem_idx]
theorem ord_mem {n : Nat} (hn : n ≤ 40) {x : Int} : x ∈ ord f n ↔ 0 ≤ x ∧ x < n := by rw [(ord_ok f hn).1.mem_iff, mem_idx]
theorem ord_nodup {n : Nat} (hn : n ≤ 40) : (ord f n).Nodup := (ord_ok f hn).2.imp fun h e => by subst e; exact lt_not f h h
end
end Go.Proofs.Ytpnejhelandclaa.S7
namespace Go.Proofs.Ytpnejhelandclaa.W3
open Go Go.RowKit Go.Proofs.Ytpnejhelandclaa Go.Proofs.Ytpnejhelandclaa.P Go.Proofs.YtpnejhelandclaaW.PrintWords Go.Proofs.YtpnejhelandclaaW.PrintLast Go.Proofs.Ytpnejhelandclaa.EV Go.Proofs.Ytpnejhelandclaa.I1 Go.Proofs.Ytpnejhelandclaa.TI Go.Proofs.Ytpnejhelandclaa.W1 Go.Proofs.Ytpnejhelandclaa.W2 Go.Proofs.Ytpnejhelandclaa.S7
noncomputable def rm (t : Int) (l : List Int) (j : Int) : Int := (quota t l j).2.1
noncomputable def overP (t : Int) (l : List Int) (i : Nat) : List Int := (List.range i).map fun j : Nat => rm t l (j : Int)
section
variable (t : Int) (l : List Int)
theorem overP_succ (i : Nat) : overP t l (i + 1) = overP t l i ++ [rm t l (i : Int)] := by unfold overP; rw [List.range_succ, List.map_append]; rfl
theorem overP_length (i : Nat) : (overP t l i).length = i := by unfold overP; rw [List.length_map, List.length_range]
theorem rd_over (i : Nat) (x : Int) (h0 : 0 ≤ x) (h1 : x < i) : rd (overP t l i) x = rm t l x := by
  unfold rd overP
  rw [List.getD_eq_getElem?_getD, List.getElem?_map, List.getElem?_range (by omega)]
  show rm t l ((x.toNat : Nat) : Int) = _
  rw [Int.toNat_of_nonneg h0]
theorem cmp_ok (n : Nat) : S5.CmpOk (impl_ShareOrder.cmp (overP t l n)) (cb (rm t l)) (fun x => 0 ≤ x ∧ x < n) := by
  intro x y hx hy
  unfold impl_ShareOrder.cmp cb
  rw [overP_length, rd_over t l n x hx.1 hx.2, rd_over t l n y hy.1 hy.2, if_pos ⟨hx.1, hx.2, hy.1, hy.2⟩]
  refine ⟨_, rfl, ?_⟩
  rw [decide_eq_true_iff]
  by_cases h : rm t l y < rm t l x
  · rw [if_pos h]
    omega
  · rw [if_neg h]
    by_cases h2 : rm t l x < rm t l y
    · rw [if_pos h2]
      omega
    · rw [if_neg h2]
      omega
theorem order_i (hl : l.length ≤ 40) : ∀ (d i : Nat), l.length - i = d → i ≤ l.length → Ev (fun k => impl_ShareOrder.l0 k t l (idx i) (overP t l i) (l.length : Int) (i : Int)) (ord (rm t l) l.length) := by
  intro d
  induction d with
  | zero =>
    intro i hd hi
    obtain rfl : i = l.length := by omega
    refine Ev.step (f := fun k => SB.slices_stableCmpFunc_int.f k (idx l.length) ((l.length : Nat) : Int) (impl_ShareOrder.cmp (overP t l l.length))) (fun k => ?_) (S6.stb_ev (cmp_ok t l l.length) hl (idx l.length) ⟨idx_length _, fun e he => mem_idx.1 he⟩)
    simp only [impl_ShareOrder.l0]
    rw [if_neg (by omega), idx_length]
  | succ d ih =>
    intro i hd hi
    refine Ev.step (f := fun k => (impl_ShareQuota.f k t l (i : Int)).bind fun bt209 => (if (idx i).length < 17592186044416 then (if (overP t l i).length < 17592186044416 then (impl_ShareOrder.l0 k t l ((idx i) ++ [(i : Int)]) ((overP t l i) ++ [bt209.2.1]) (l.length : Int) (wrap64 ((i : Int) + 1))) else (none)) else (none))) (fun k => ?_) (Ev_bind (quota_i t l i) (Ev.congr (fun k => ?_) (ih (i + 1) (by omega) (by omega))))
    · simp only [impl_ShareOrder.l0]
      rw [if_pos (by omega)]
    · rw [if_pos (by rw [idx_length]; omega), if_pos (by rw [overP_length]; omega), idx_succ, overP_succ, w_succ (by omega : i < l.length) (by omega)]
      rfl
noncomputable def ordR : List Int := if okW l = true ∧ InT t then ord (rm t l) l.length else []
theorem shareOrder_i : Ev (fun k => impl_ShareOrder.f k t l) (ordR t l) := by
  unfold impl_ShareOrder.f ordR
  refine Ev_bind (shareable_i t l) ?_
  by_cases h : okW l = true
  · by_cases ht : InT t
    · rw [if_pos ⟨h, ht⟩]
      have ho := (okW_iff l).1 h
      have hl := ho.1
      refine Ev.congr (fun k => ?_) (order_i t l (by omega) l.length 0 (by omega) (by omega))
      rw [h, decide_eq_true ht, if_pos (by decide)]
      rfl
    · rw [if_neg (fun g => ht g.2)]
      exact Ev_all_k fun k => by rw [h, decide_eq_false ht, if_neg (by decide)]
  · rw [if_neg (fun g => h g.1)]
    exact Ev_all_k fun k => by rw [Bool.eq_false_iff.2 h, Bool.false_and, if_neg (by decide)]
theorem put_ev (R : List Int) (n i : Nat) (hi : i < n) (hn : n ≤ 40) (out left : List Int) (hout : out.length = i) (hleft : left.length = i + 1) (hmem : ∀ x ∈ out, 0 ≤ x ∧ x < i) (hrd : ∀ x : Int, 0 ≤ x → x < i → rd left x = rm t l x) (r : Int) :
    ∀ q : Nat, q ≤ i → Ev (fun k => spec_ShareOrder.l0 k t l (out.take (pos (rm t l) r out q) ++ [(i : Int)] ++ out.drop (pos (rm t l) r out q)) left ((i + 1 : Nat) : Int)) R → Ev (fun k => spec_ShareOrder.l1 k t l out left (i : Int) r (q : Int)) R := by
  have leave : ∀ (q : Nat), q ≤ i → ∀ k, ((some (([] : List Int) : List Int)).bind fun y190 => (if 0 ≤ (q : Int) then (if (q : Int) ≤ (out.length : Int) then ((some (out.take ((q : Int) : Int).toNat : List Int)).bind fun y193 => (if y190.length + y193.length < 17592186044416 then ((some (y190 ++ y193 : List Int)).bind fun y197 => (if y197.length < 17592186044416 then ((some (y197 ++ [(i : Int)] : List Int)).bind fun y200 => ((some (out.drop ((q : Int) : Int).toNat : List Int)).bind fun y203 => (if y200.length + y203.length < 17592186044416 then (spec_ShareOrder.l0 k t l (y200 ++ y203) left (wrap64 ((i : Int) + 1))) else (none)))) else (none))) else (none))) else (none)) else (none))) = spec_ShareOrder.l0 k t l (out.take q ++ [(i : Int)] ++ out.drop q) left ((i + 1 : Nat) : Int) := by
    intro q hq k
    rw [Option.bind_some, if_pos (by omega), if_pos (by omega), Option.bind_some, if_pos (by rw [List.length_nil, List.length_take]; omega), Option.bind_some, if_pos (by rw [List.nil_append, List.length_take]; omega), Option.bind_some, Option.bind_some, if_pos (by rw [List.nil_append, List.length_append, List.length_take, List.length_singleton, List.length_drop]; omega), w_succ hi (by omega), List.nil_append, Int.toNat_natCast]
  intro q
  induction q with
  | zero =>
    intro hq hR
    refine Ev.step (fun k => ?_) hR
    simp only [spec_ShareOrder.l1]
    rw [if_neg (by omega)]
    exact leave 0 (by omega) k
  | succ q ih =>
    intro hq hR
    have hx : out.getD q 0 ∈ out := by
      rw [List.getD_eq_getElem?_getD, List.getElem?_eq_getElem (by omega : q < out.length)]
      exact List.getElem_mem _
    have hb := hmem _ hx
    have ep : wrap64 (((q + 1 : Nat) : Int) - 1) = (q : Int) := by unfold wrap64; omega
    rw [pos] at hR
    by_cases g : rm t l (out.getD q 0) < r
    · rw [if_pos g] at hR
      refine Ev.step (fun k => ?_) (ih (by omega) hR)
      simp only [spec_ShareOrder.l1]
      rw [if_pos (by omega), ep, if_pos (by omega), if_pos (by omega), rdi, if_pos hb.1, if_pos (by omega), hrd _ hb.1 hb.2, if_pos g]
    · rw [if_neg g] at hR
      refine Ev.step (fun k => ?_) hR
      simp only [spec_ShareOrder.l1]
      rw [if_pos (by omega), ep, if_pos (by omega), if_pos (by omega), rdi, if_pos hb.1, if_pos (by omega), hrd _ hb.1 hb.2, if_neg g]
      exact leave (q + 1) (by omega) k
theorem order_s (hl : l.length ≤ 40) : ∀ (d i : Nat), l.length - i = d → i ≤ l.length → Ev (fun k => spec_ShareOrder.l0 k t l (specO (rm t l) i) (overP t l i) (i : Int)) (specO (rm t l) l.length) := by
  intro d
  induction d with
  | zero =>
    intro i hd hi
    obtain rfl : i = l.length := by omega
    exact Ev_one fun k => by
      simp only [spec_ShareOrder.l0]
      rw [if_neg (by omega)]
  | succ d ih =>
    intro i hd hi
    refine Ev.step (f := fun k => (spec_ShareQuota.f k t l (i : Int)).bind fun bt182 => (if (overP t l i).length < 17592186044416 then (spec_ShareOrder.l1 k t l (specO (rm t l) i) ((overP t l i) ++ [bt182.2.1]) (i : Int) bt182.2.1 ((specO (rm t l) i).length : Int)) else (none))) (fun k => ?_) (Ev_bind (quota_s t l i) (Ev.congr (f := fun k => spec_ShareOrder.l1 k t l (specO (rm t l) i) (overP t l (i + 1)) (i : Int) (rm t l (i : Int)) ((i : Nat) : Int)) (fun k => ?_) (put_ev t l _ l.length i (by omega) hl _ _ (specO_length _ i) (overP_length t l (i + 1)) (fun x hx => (specO_mem _).1 hx) (fun x h0 h1 => rd_over t l (i + 1) x h0 (by omega)) _ i (Nat.le_refl _) ?_)))
    · simp only [spec_ShareOrder.l0]
      rw [if_pos (by omega)]
    · rw [if_pos (by rw [overP_length]; omega), specO_length, overP_succ]
      rfl
    · have e : specO (rm t l) (i + 1) = (specO (rm t l) i).take (pos (rm t l) (rm t l i) (specO (rm t l) i) i) ++ [(i : Int)] ++ (specO (rm t l) i).drop (pos (rm t l) (rm t l i) (specO (rm t l) i) i) := by
        show ins (rm t l) i (specO (rm t l) i) = _
        unfold ins
        rw [specO_length]
      rw [← e]
      exact ih (i + 1) (by omega) (by omega)
theorem shareOrder_s : Ev (fun k => spec_ShareOrder.f k t l) (ordR t l) := by
  unfold spec_ShareOrder.f ordR
  refine Ev.congr (f := fun k => (spec_WeightsOk.f k l).bind fun t177 => (if t177 = true then ((spec_l1Some.f t 0).bind fun t178 => (spec_ShareOrder.j0 k t l [] (!t178))) else (spec_ShareOrder.j0 k t l [] true))) (fun k => rfl) (Ev_bind (weightsOk_s l) ?_)
  have no : Ev (fun k => spec_ShareOrder.j0 k t l [] true) [] := Ev_one fun k => by
    simp only [spec_ShareOrder.j0]
    rw [if_pos trivial]
  by_cases h : okW l = true
  · have ho := (okW_iff l).1 h
    have hl := ho.1
    by_cases ht : InT t
    · rw [if_pos ⟨h, ht⟩, ← specO_ord (rm t l) (by omega)]
      refine Ev.congr (f := fun k => spec_ShareOrder.j0 k t l [] false) (fun k => ?_) (Ev.step (fun k => ?_) (order_s t l (by omega) l.length 0 (by omega) (by omega)))
      · rw [if_pos h, some_s1, Option.bind_some, decide_eq_true (show 0 ≤ t ∧ t ≤ 1000000000000000 from ht)]
        rfl
      · simp only [spec_ShareOrder.j0]
        rw [if_neg (by decide)]
        rfl
    · rw [if_neg (fun g => ht g.2)]
      refine Ev.congr (fun k => ?_) no
      rw [if_pos h, some_s1, Option.bind_some, decide_eq_false (show ¬ (0 ≤ t ∧ t ≤ 1000000000000000) from ht)]
      rfl
  · rw [if_neg (fun g => h g.1)]
    exact Ev.congr (fun k => by rw [if_neg h]) no
end
end Go.Proofs.Ytpnejhelandclaa.W3
namespace Go.Proofs.Ytpnejhelandclaa.W4
open Go Go.RowKit Go.Proofs.Ytpnejhelandclaa Go.Proofs.Ytpnejhelandclaa.P Go.Proofs.YtpnejhelandclaaW.PrintWords Go.Proofs.YtpnejhelandclaaW.PrintLast Go.Proofs.Ytpnejhelandclaa.EV Go.Proofs.Ytpnejhelandclaa.I1 Go.Proofs.Ytpnejhelandclaa.A2 Go.Proofs.Ytpnejhelandclaa.TI Go.Proofs.Ytpnejhelandclaa.W1 Go.Proofs.Ytpnejhelandclaa.W2 Go.Proofs.Ytpnejhelandclaa.W3 Go.Proofs.Ytpnejhelandclaa.S7
noncomputable def qt (t : Int) (l : List Int) (j : Int) : Int := (quota t l j).1
noncomputable def qP (t : Int) (l : List Int) (i : Nat) : List Int := (List.range i).map fun j : Nat => qt t l (j : Int)
def incL (Q : List Int) (xs : List Int) : List Int := xs.foldl (fun Q x => Q.set x.toNat (wrap64 (rd Q x + 1))) Q
theorem incL_snoc (Q xs : List Int) (x : Int) : incL Q (xs ++ [x]) = (incL Q xs).set x.toNat (wrap64 (rd (incL Q xs) x + 1)) := by unfold incL; rw [List.foldl_append]; rfl
theorem incL_length (Q : List Int) : ∀ xs : List Int, (incL Q xs).length = Q.length := by
  intro xs
  induction xs generalizing Q with
  | nil => rfl
  | cons x xs ih =>
    show (incL (Q.set x.toNat (wrap64 (rd Q x + 1))) xs).length = _
    rw [ih, List.length_set]
section
variable (t : Int) (l : List Int)
theorem qP_succ (i : Nat) : qP t l (i + 1) = qP t l i ++ [qt t l (i : Int)] := by unfold qP; rw [List.range_succ, List.map_append]; rfl
theorem qP_length (i : Nat) : (qP t l i).length = i := by unfold qP; rw [List.length_map, List.length_range]
theorem qP_at (i j : Nat) (h : j < i) : (qP t l i).getD j 0 = qt t l (j : Int) := by
  unfold qP
  rw [List.getD_eq_getElem?_getD, List.getElem?_map, List.getElem?_range h]
  rfl
variable {t l}
theorem mul_le_left {t w W : Int} (ht : 0 ≤ t) (h : w ≤ W) (hW : 0 < W) : t * w / W ≤ t := by
  have : t * w ≤ t * W := Int.mul_le_mul_of_nonneg_left h ht
  exact Int.ediv_le_of_le_mul hW this
theorem le_sum : ∀ (l : List Int), (∀ x ∈ l, 0 ≤ x) → ∀ x ∈ l, x ≤ l.sum
  | [], _, x, h => by cases h
  | y :: l, h0, x, h => by
    rw [List.sum_cons]
    have hs : ∀ (l : List Int), (∀ x ∈ l, 0 ≤ x) → 0 ≤ l.sum := by
      intro l
      induction l with
      | nil => intro _; simp
      | cons z l ih =>
        intro h
        rw [List.sum_cons]
        have := h z (List.mem_cons_self ..)
        have := ih fun x hx => h x (List.mem_cons_of_mem _ hx)
        omega
    rcases List.mem_cons.1 h with rfl | h
    · have := hs l fun x hx => h0 x (List.mem_cons_of_mem _ hx)
      omega
    · have := le_sum l (fun x hx => h0 x (List.mem_cons_of_mem _ hx)) x h
      have := h0 y (List.mem_cons_self ..)
      omega
theorem part (ho : OkW l) (ht : InT t) (j : Nat) (hj : j < l.length) : quota t l (j : Int) = (t * l.getD j 0 / l.sum, t * l.getD j 0 % l.sum, true) := by
  rw [quota_yes ⟨ho, ht, by omega, by omega⟩, rdi]
  have hf := ho.few.at j hj
  have hm : l.getD j 0 ∈ l := by
    rw [List.getD_eq_getElem?_getD, List.getElem?_eq_getElem hj]
    exact List.getElem_mem _
  have hs := le_sum l (fun x hx => (ho.1.2.2 x hx).1) _ hm
  have h2 := ho.2
  have := mul_le_left ht.1 hs (by omega)
  have := ht.2
  exact md_yes ⟨ht, hf, h2, by omega⟩
theorem qt_eq (ho : OkW l) (ht : InT t) (j : Nat) (hj : j < l.length) : qt t l (j : Int) = t * l.getD j 0 / l.sum := by unfold qt; rw [part ho ht j hj]
theorem rm_eq (ho : OkW l) (ht : InT t) (j : Nat) (hj : j < l.length) : rm t l (j : Int) = t * l.getD j 0 % l.sum := by unfold rm; rw [part ho ht j hj]
theorem rm_range (ho : OkW l) (ht : InT t) (j : Nat) (hj : j < l.length) : 0 ≤ rm t l (j : Int) ∧ rm t l (j : Int) < l.sum := by
  have h2 := ho.2
  rw [rm_eq ho ht j hj]
  exact ⟨Int.emod_nonneg _ (by omega), Int.emod_lt_of_pos _ (by omega)⟩
theorem qt_range (ho : OkW l) (ht : InT t) (j : Nat) (hj : j < l.length) : 0 ≤ qt t l (j : Int) ∧ qt t l (j : Int) ≤ t := by
  have h2 := ho.2
  have hf := ho.few.at j hj
  have hm : l.getD j 0 ∈ l := by
    rw [List.getD_eq_getElem?_getD, List.getElem?_eq_getElem hj]
    exact List.getElem_mem _
  have hs := le_sum l (fun x hx => (ho.1.2.2 x hx).1) _ hm
  rw [qt_eq ho ht j hj]
  exact ⟨Int.ediv_nonneg (Int.mul_nonneg ht.1 hf.1) (by omega), mul_le_left ht.1 hs (by omega)⟩
theorem take_sum (i : Nat) (hi : i < l.length) : (l.take (i + 1)).sum = (l.take i).sum + l.getD i 0 := by
  rw [List.take_add_one, List.getElem?_eq_getElem hi, List.getD_eq_getElem?_getD, List.getElem?_eq_getElem hi, List.sum_append]
  simp
theorem sums (ho : OkW l) (ht : InT t) : ∀ i : Nat, i ≤ l.length → (qP t l i).sum * l.sum + (overP t l i).sum = t * (l.take i).sum ∧ 0 ≤ (overP t l i).sum ∧ (overP t l i).sum ≤ i * (l.sum - 1) ∧ 0 ≤ (qP t l i).sum ∧ (qP t l i).sum ≤ i * t
  | 0, _ => by
    refine ⟨?_, ?_, ?_, ?_, ?_⟩ <;> simp [qP, overP]
  | i + 1, hi => by
    obtain ⟨h1, h2, h3, h4, h5⟩ := sums ho ht i (by omega)
    have hr := rm_range ho ht i (by omega)
    have hq := qt_range ho ht i (by omega)
    have e : qt t l (i : Int) * l.sum + rm t l (i : Int) = t * l.getD i 0 := by
      rw [qt_eq ho ht i (by omega), rm_eq ho ht i (by omega)]
      exact Int.ediv_mul_add_emod _ _
    rw [qP_succ, overP_succ, take_sum i (by omega), List.sum_append, List.sum_append, Int.mul_add, Int.add_mul]
    have e1 : ([qt t l (i : Int)] : List Int).sum = qt t l (i : Int) := by simp
    have e2 : ([rm t l (i : Int)] : List Int).sum = rm t l (i : Int) := by simp
    have e3 : ((i + 1 : Nat) : Int) * (l.sum - 1) = (i : Int) * (l.sum - 1) + (l.sum - 1) := by rw [Int.natCast_add, Int.add_mul]; simp
    have e4 : ((i + 1 : Nat) : Int) * t = (i : Int) * t + t := by rw [Int.natCast_add, Int.add_mul]; simp
    rw [e1, e2, e3, e4]
    refine ⟨by omega, by omega, by omega, by omega, by omega⟩
theorem more_range (ho : OkW l) (ht : InT t) : (t - (qP t l l.length).sum) * l.sum = (overP t l l.length).sum ∧ 0 ≤ t - (qP t l l.length).sum ∧ t - (qP t l l.length).sum < l.length := by
  obtain ⟨h1, h2, h3, _, _⟩ := sums ho ht l.length (Nat.le_refl _)
  rw [List.take_length] at h1
  have hW := ho.2.1
  have hn := ho.1.1
  have e : (t - (qP t l l.length).sum) * l.sum = (overP t l l.length).sum := by rw [Int.sub_mul]; omega
  refine ⟨e, ?_, ?_⟩
  · apply Classical.byContradiction
    intro h
    have : (t - (qP t l l.length).sum) * l.sum < 0 := Int.mul_neg_of_neg_of_pos (by omega) (by omega)
    omega
  · apply Classical.byContradiction
    intro h
    have h4 : (l.length : Int) * l.sum ≤ (t - (qP t l l.length).sum) * l.sum := Int.mul_le_mul_of_nonneg_right (by omega) (by omega)
    have h5 : (l.length : Int) * (l.sum - 1) = (l.length : Int) * l.sum - l.length := by rw [Int.mul_sub, Int.mul_one]
    omega
theorem qP_few (ho : OkW l) (ht : InT t) : Few (qP t l l.length) := by
  have hn := ho.1.2.1
  refine ⟨by rw [qP_length]; omega, fun x hx => ?_⟩
  unfold qP at hx
  obtain ⟨j, hj, rfl⟩ := List.mem_map.1 hx
  have := qt_range ho ht j (List.mem_range.1 hj)
  have := ht.2
  omega
variable (t l)
noncomputable def moreN : Nat := (t - (qP t l l.length).sum).toNat
noncomputable def sharesR : List Int × Bool := if okW l = true ∧ InT t then (incL (qP t l l.length) ((ord (rm t l) l.length).take (moreN t l)), true) else ([], false)
variable {t l}
theorem inc_i (Q y : List Int) (hy : ∀ x ∈ y, 0 ≤ x ∧ x < Q.length) (hyl : y.length ≤ 40) : ∀ (d i : Nat), y.length - i = d → i ≤ y.length → Ev (fun k => impl_Shares.l1 k (incL Q (y.take i)) y (y.length : Int) (i : Int)) (incL Q y, true) := by
  intro d
  induction d with
  | zero =>
    intro i hd hi
    obtain rfl : i = y.length := by omega
    exact Ev_one fun k => by
      simp only [impl_Shares.l1]
      rw [if_neg (by omega), List.take_length]
  | succ d ih =>
    intro i hd hi
    have hx : y.getD i 0 ∈ y := by
      rw [List.getD_eq_getElem?_getD, List.getElem?_eq_getElem (by omega : i < y.length)]
      exact List.getElem_mem _
    have hb := hy _ hx
    have e : y.take (i + 1) = y.take i ++ [y.getD i 0] := by
      rw [List.take_add_one, List.getElem?_eq_getElem (by omega : i < y.length), List.getD_eq_getElem?_getD, List.getElem?_eq_getElem (by omega : i < y.length)]
      rfl
    refine Ev.step (fun k => ?_) (ih (i + 1) (by omega) (by omega))
    simp only [impl_Shares.l1]
    rw [if_pos (by omega), if_pos (by omega), if_pos (by omega), rdi, if_pos hb.1, if_pos (by rw [incL_length]; exact hb.2), w_succ (by omega : i < y.length) (by omega), e, incL_snoc]
theorem inc_s (Q y : List Int) (left : Nat) (hy : ∀ x ∈ y, 0 ≤ x ∧ x < Q.length) (hyl : y.length ≤ 40) (hl : left ≤ y.length) : ∀ (d i : Nat), left - i = d → i ≤ left → Ev (fun k => spec_Shares.l1 k (incL Q (y.take i)) (left : Int) y (i : Int)) (incL Q (y.take left), true) := by
  intro d
  induction d with
  | zero =>
    intro i hd hi
    obtain rfl : i = left := by omega
    exact Ev_one fun k => by
      simp only [spec_Shares.l1]
      rw [if_neg (by omega)]
  | succ d ih =>
    intro i hd hi
    have hx : y.getD i 0 ∈ y := by
      rw [List.getD_eq_getElem?_getD, List.getElem?_eq_getElem (by omega : i < y.length)]
      exact List.getElem_mem _
    have hb := hy _ hx
    have e : y.take (i + 1) = y.take i ++ [y.getD i 0] := by
      rw [List.take_add_one, List.getElem?_eq_getElem (by omega : i < y.length), List.getD_eq_getElem?_getD, List.getElem?_eq_getElem (by omega : i < y.length)]
      rfl
    refine Ev.step (fun k => ?_) (ih (i + 1) (by omega) (by omega))
    simp only [spec_Shares.l1]
    rw [if_pos (by omega), if_pos (by omega), if_pos (by omega), rdi, if_pos hb.1, if_pos (by rw [incL_length]; exact hb.2), w_succ (by omega : i < y.length) (by omega), e, incL_snoc]
theorem ordR_yes (ho : OkW l) (ht : InT t) : ordR t l = ord (rm t l) l.length := by unfold ordR; rw [if_pos ⟨(okW_iff l).2 ho, ht⟩]
theorem parts_i (ho : OkW l) (ht : InT t) : ∀ (d i : Nat), l.length - i = d → i ≤ l.length → Ev (fun k => impl_Shares.l0 k t l (qP t l i) (l.length : Int) (i : Int)) (incL (qP t l l.length) ((ord (rm t l) l.length).take (moreN t l)), true) := by
  have hn := ho.1.2.1
  have hm := more_range ho ht
  have hmn : ((moreN t l : Nat) : Int) = t - (qP t l l.length).sum := by unfold moreN; omega
  have ol := ord_length (rm t l) (show l.length ≤ 40 by omega)
  have hs := sums ho ht l.length (Nat.le_refl _)
  intro d
  induction d with
  | zero =>
    intro i hd hi
    obtain rfl : i = l.length := by omega
    have h0 := ordR_yes ho ht ▸ shareOrder_i t l
    have hy : ∀ x ∈ (ord (rm t l) l.length).take (moreN t l), 0 ≤ x ∧ x < (qP t l l.length).length := fun x hx => by
      rw [qP_length]
      exact (ord_mem (rm t l) (by omega)).1 (List.mem_of_mem_take hx)
    have fin := inc_i (qP t l l.length) ((ord (rm t l) l.length).take (moreN t l)) hy (by rw [List.length_take]; omega) _ 0 rfl (by omega)
    have ht' := ht
    unfold InT at ht'
    have ew : wrap64 (t - (qP t l l.length).sum) = ((moreN t l : Nat) : Int) := by rw [hmn]; exact w64_in _ (by omega) (by omega)
    refine Ev.step (f := fun k => (impl_sumOf.f k (qP t l l.length)).bind fun t291 => ((impl_ShareOrder.f k t l).bind fun t292 => (if 0 ≤ (wrap64 (t - t291)) then (if (wrap64 (t - t291)) ≤ (t292.length : Int) then ((some (t292.take ((wrap64 (t - t291)) : Int).toNat : List Int)).bind fun y295 => (impl_Shares.l1 k (qP t l l.length) y295 (y295.length : Int) 0)) else (none)) else (none)))) (fun k => ?_) (Ev_bind (all_i (qP_few ho ht)) (Ev_bind h0 (Ev.congr (fun k => ?_) fin)))
    · simp only [impl_Shares.l0]
      rw [if_neg (by omega)]
    · rw [ew, if_pos (by omega), if_pos (by omega), Option.bind_some, Int.toNat_natCast]
      rfl
  | succ d ih =>
    intro i hd hi
    refine Ev.step (f := fun k => (impl_ShareQuota.f k t l (i : Int)).bind fun bt285 => (if (qP t l i).length < 17592186044416 then (impl_Shares.l0 k t l (qP t l i ++ [bt285.1]) (l.length : Int) (wrap64 ((i : Int) + 1))) else (none))) (fun k => ?_) (Ev_bind (quota_i t l i) (Ev.congr (fun k => ?_) (ih (i + 1) (by omega) (by omega))))
    · simp only [impl_Shares.l0]
      rw [if_pos (by omega)]
    · rw [if_pos (by rw [qP_length]; omega), qP_succ, w_succ (by omega : i < l.length) (by omega)]
      rfl
theorem parts_s (ho : OkW l) (ht : InT t) : ∀ (d i : Nat), l.length - i = d → i ≤ l.length → Ev (fun k => spec_Shares.l0 k t l (qP t l i) (t - (qP t l i).sum) (i : Int)) (incL (qP t l l.length) ((ord (rm t l) l.length).take (moreN t l)), true) := by
  have hn := ho.1.2.1
  have hm := more_range ho ht
  have hmn : ((moreN t l : Nat) : Int) = t - (qP t l l.length).sum := by unfold moreN; omega
  have ol := ord_length (rm t l) (show l.length ≤ 40 by omega)
  have ht' := ht
  unfold InT at ht'
  intro d
  induction d with
  | zero =>
    intro i hd hi
    obtain rfl : i = l.length := by omega
    have h0 := ordR_yes ho ht ▸ shareOrder_s t l
    have fin := inc_s (qP t l l.length) (ord (rm t l) l.length) (moreN t l) (fun x hx => by rw [qP_length]; exact (ord_mem (rm t l) (by omega)).1 hx) (by omega) (by omega) _ 0 rfl (by omega)
    refine Ev.step (f := fun k => (spec_ShareOrder.f k t l).bind fun t274 => (spec_Shares.l1 k (qP t l l.length) ((moreN t l : Nat) : Int) t274 0)) (fun k => ?_) (Ev_bind h0 fin)
    simp only [spec_Shares.l0]
    rw [if_neg (by omega), hmn]
  | succ d ih =>
    intro i hd hi
    have hs := sums ho ht i (by omega)
    have hq := qt_range ho ht i (by omega)
    have hb : (i : Int) * t ≤ 40 * 1000000000000000 := by
      have h1 : (i : Int) * t ≤ 40 * t := Int.mul_le_mul_of_nonneg_right (by omega) ht'.1
      omega
    refine Ev.step (f := fun k => (spec_ShareQuota.f k t l (i : Int)).bind fun bt268 => (if (qP t l i).length < 17592186044416 then (spec_Shares.l0 k t l (qP t l i ++ [bt268.1]) (wrap64 ((t - (qP t l i).sum) - bt268.1)) (wrap64 ((i : Int) + 1))) else (none))) (fun k => ?_) (Ev_bind (quota_s t l i) (Ev.congr (fun k => ?_) (ih (i + 1) (by omega) (by omega))))
    · simp only [spec_Shares.l0]
      rw [if_pos (by omega)]
    · have es : (qP t l (i + 1)).sum = (qP t l i).sum + qt t l i := by rw [qP_succ, List.sum_append]; simp
      have e : wrap64 ((t - (qP t l i).sum) - qt t l i) = t - (qP t l (i + 1)).sum := by
        rw [es, w64_in _ (by omega) (by omega)]
        omega
      show (if (qP t l i).length < 17592186044416 then (spec_Shares.l0 k t l (qP t l i ++ [qt t l i]) (wrap64 ((t - (qP t l i).sum) - qt t l i)) (wrap64 ((i : Int) + 1))) else (none)) = _
      rw [if_pos (by rw [qP_length]; omega), e, qP_succ, w_succ (by omega : i < l.length) (by omega)]
variable (t l)
theorem shares_i : Ev (fun k => impl_Shares.f k t l) (sharesR t l) := by
  unfold impl_Shares.f sharesR
  refine Ev_bind (shareable_i t l) ?_
  by_cases h : okW l = true
  · by_cases ht : InT t
    · rw [if_pos ⟨h, ht⟩]
      refine Ev.congr (fun k => ?_) (parts_i ((okW_iff l).1 h) ht l.length 0 (by omega) (by omega))
      rw [h, decide_eq_true ht, if_pos (by decide)]
      rfl
    · rw [if_neg (fun g => ht g.2)]
      exact Ev_all_k fun k => by rw [h, decide_eq_false ht, if_neg (by decide)]
  · rw [if_neg (fun g => h g.1)]
    exact Ev_all_k fun k => by rw [Bool.eq_false_iff.2 h, Bool.false_and, if_neg (by decide)]
theorem shares_s : Ev (fun k => spec_Shares.f k t l) (sharesR t l) := by
  unfold spec_Shares.f sharesR
  refine Ev.congr (f := fun k => (spec_WeightsOk.f k l).bind fun t266 => (if t266 = true then ((spec_l1Some.f t 0).bind fun t267 => (spec_Shares.j0 k t l [] (!t267))) else (spec_Shares.j0 k t l [] true))) (fun k => rfl) (Ev_bind (weightsOk_s l) ?_)
  have no : Ev (fun k => spec_Shares.j0 k t l [] true) ([], false) := Ev_one fun k => by
    simp only [spec_Shares.j0]
    rw [if_pos trivial]
  by_cases h : okW l = true
  · by_cases ht : InT t
    · rw [if_pos ⟨h, ht⟩]
      have h0 := parts_s ((okW_iff l).1 h) ht l.length 0 (by omega) (by omega)
      refine Ev.congr (f := fun k => spec_Shares.j0 k t l [] false) (fun k => ?_) (Ev.step (fun k => ?_) h0)
      · rw [if_pos h, some_s1, Option.bind_some, decide_eq_true (show 0 ≤ t ∧ t ≤ 1000000000000000 from ht)]
        rfl
      · simp only [spec_Shares.j0]
        rw [if_neg (by decide)]
        show spec_Shares.l0 k t l [] t 0 = spec_Shares.l0 k t l [] (t - ([] : List Int).sum) 0
        rw [List.sum_nil, Int.sub_zero]
    · rw [if_neg (fun g => ht g.2)]
      refine Ev.congr (fun k => ?_) no
      rw [if_pos h, some_s1, Option.bind_some, decide_eq_false (show ¬ (0 ≤ t ∧ t ≤ 1000000000000000) from ht)]
      rfl
  · rw [if_neg (fun g => h g.1)]
    exact Ev.congr (fun k => by rw [if_neg h]) no
end
end Go.Proofs.Ytpnejhelandclaa.W4
namespace Go.Proofs.Ytpnejhelandclaa.D1
open Go Go.RowKit Go.Proofs.Ytpnejhelandclaa.P Go.Proofs.YtpnejhelandclaaW.PrintWords Go.Proofs.YtpnejhelandclaaW.PrintLast Go.Proofs.Ytpnejhelandclaa.EV
theorem and255 (y : Int) : 0 ≤ Go.bits .and .i64 y 255 ∧ Go.bits .and .i64 y 255 ≤ 255 := by
  have h : (BitVec.ofInt IntKind.i64.bits y &&& BitVec.ofInt IntKind.i64.bits 255).toNat ≤ 255 := by
    rw [BitVec.toNat_and]
    exact Nat.le_trans Nat.and_le_right (by decide)
  simp only [Go.bits]
  generalize (BitVec.ofInt IntKind.i64.bits y &&& BitVec.ofInt IntKind.i64.bits 255).toNat = m at *
  rw [IntKind.wrap_i64]
  omega
def V (b : List Int) (i : Int) : Prop := 0 ≤ i ∧ i ≤ b.length ∧ b.length ≤ 140737488351232
theorem byte_ok (b : List Int) (i h : Int) (hv : V b i) : ∃ x i' h', spec_l1Byte.f b i h = some (x, i', h') ∧ 0 ≤ x ∧ x ≤ 255 ∧ V b i' := by
  obtain ⟨h0, h1, h2⟩ := hv
  unfold spec_l1Byte.f
  by_cases hi : i < (b.length : Int)
  · rw [if_pos hi, if_pos h0]
    refine ⟨_, _, _, rfl, (and255 _).1, (and255 _).2, ?_⟩
    rw [w64_in _ (by omega) (by omega)]
    exact ⟨by omega, by omega, h2⟩
  · rw [if_neg hi]
    exact ⟨_, _, _, rfl, (and255 _).1, (and255 _).2, h0, h1, h2⟩
theorem below_ok (b : List Int) (i h n : Int) (hv : V b i) (hn : n ≤ 4294967296) : ∃ x i' h', spec_l1Below.f b i h n = some (x, i', h') ∧ 0 ≤ x ∧ (0 < n → x < n) ∧ (n ≤ 0 → x = 0) ∧ V b i' := by
  unfold spec_l1Below.f
  by_cases h0 : n ≤ 0
  · rw [if_pos h0]
    exact ⟨_, _, _, rfl, by omega, fun h => by omega, fun _ => rfl, hv⟩
  · rw [if_neg h0]
    by_cases h1 : n ≤ 256
    · rw [if_pos h1]
      obtain ⟨x, i1, g1, e1, x0, x1, v1⟩ := byte_ok b i h hv
      rw [e1, Option.bind_some, if_neg (by omega)]
      refine ⟨_, _, _, rfl, ?_, fun _ => ?_, fun h => by omega, v1⟩
      · show 0 ≤ Int.tmod x n
        rw [Int.tmod_eq_emod_of_nonneg x0]
        exact Int.emod_nonneg _ (by omega)
      · show Int.tmod x n < n
        rw [Int.tmod_eq_emod_of_nonneg x0]
        exact Int.emod_lt_of_pos _ (by omega)
    · rw [if_neg h1]
      obtain ⟨x, i1, g1, e1, x0, x1, v1⟩ := byte_ok b i h hv
      rw [e1, Option.bind_some]
      obtain ⟨y, i2, g2, e2, y0, y1, v2⟩ := byte_ok b i1 g1 v1
      simp only [e2, Option.bind_some]
      obtain ⟨z, i3, g3, e3, z0, z1, v3⟩ := byte_ok b i2 g2 v2
      simp only [e3, Option.bind_some]
      obtain ⟨u, i4, g4, e4, u0, u1, v4⟩ := byte_ok b i3 g3 v3
      simp only [e4, Option.bind_some]
      rw [if_neg (by omega), w64_in (x * 16777216) (by omega) (by omega), w64_in (y * 65536) (by omega) (by omega), w64_in (z * 256) (by omega) (by omega),
        w64_in (x * 16777216 + y * 65536) (by omega) (by omega), w64_in (x * 16777216 + y * 65536 + z * 256) (by omega) (by omega), w64_in (x * 16777216 + y * 65536 + z * 256 + u) (by omega) (by omega)]
      refine ⟨_, _, _, rfl, ?_, fun _ => ?_, fun h => by omega, v4⟩
      · rw [Int.tmod_eq_emod_of_nonneg (by omega)]
        exact Int.emod_nonneg _ (by omega)
      · rw [Int.tmod_eq_emod_of_nonneg (by omega)]
        exact Int.emod_lt_of_pos _ (by omega)
theorem new_ok (l : List Int) (hl : l.length ≤ 140737488351232) : ∃ h, Ev (fun k => spec_l1New.f k l) (l, 0, h) := by
  have key : ∀ (d : Nat) (i : Nat) (h : Int), l.length - i = d → i ≤ l.length → ∃ h', Ev (fun k => spec_l1New.l0 k l h (i : Int)) (l, 0, h') := by
    intro d
    induction d with
    | zero =>
      intro i h hd hi
      exact ⟨h, Ev_one fun k => by simp only [spec_l1New.l0]; rw [if_neg (by omega)]⟩
    | succ d ih =>
      intro i h hd hi
      by_cases h4 : (i : Int) < 4000
      · obtain ⟨h', hr⟩ := ih (i + 1) (Go.bits .and .i64 (wrap64 ((wrap64 ((wrap64 (h * 131)) + (wrap64 (rd l (i : Int))))) + 7)) 1073741823) (by omega) (by omega)
        refine ⟨h', Ev.step (fun k => ?_) hr⟩
        simp only [spec_l1New.l0]
        rw [if_pos (by omega), if_pos h4, if_pos (by omega), w_succ (i := i) (n := l.length) (by omega) (by omega)]
      · exact ⟨h, Ev_one fun k => by simp only [spec_l1New.l0]; rw [if_pos (by omega), if_neg h4]⟩
  obtain ⟨h', hr⟩ := key l.length 0 (wrap64 (11029 + (l.length : Int))) (by omega) (by omega)
  exact ⟨h', Ev.congr (fun k => rfl) hr⟩
theorem once_ok (b : List Int) (i h n : Int) (hv : V b i) (hn : n ≤ 4294967296) : ∃ x i' h', spec_l1Once.f b i h n = some (x, i', h') ∧ V b i' := by
  unfold spec_l1Once.f
  obtain ⟨x, i1, g1, e1, _, _, _, v1⟩ := below_ok b i h n hv hn
  rw [e1]
  exact ⟨_, _, _, rfl, v1⟩
theorem pick_ok (b : List Int) (i h : Int) (l : List Int) (hv : V b i) (h0 : 0 < l.length) (hn : l.length ≤ 4294967296) : ∃ x i' h', spec_l1PickInt.f b i h l = some (x, i', h') ∧ x ∈ l ∧ V b i' := by
  unfold spec_l1PickInt.f
  obtain ⟨x, i1, g1, e1, x0, x1, _, v1⟩ := below_ok b i h l.length hv (by omega)
  have x2 := x1 (by omega)
  rw [e1, Option.bind_some, if_pos x0, if_pos x2]
  refine ⟨_, _, _, rfl, ?_, v1⟩
  show rd l x ∈ l
  unfold rd
  rw [List.getD_eq_getElem?_getD, List.getElem?_eq_getElem (by omega)]
  exact List.getElem_mem _
end Go.Proofs.Ytpnejhelandclaa.D1
namespace Go.Proofs.Ytpnejhelandclaa.W5
open Go Go.RowKit Go.Proofs.Ytpnejhelandclaa Go.Proofs.Ytpnejhelandclaa.P Go.Proofs.YtpnejhelandclaaW.PrintWords Go.Proofs.YtpnejhelandclaaW.PrintLast Go.Proofs.Ytpnejhelandclaa.EV Go.Proofs.Ytpnejhelandclaa.L1 Go.Proofs.Ytpnejhelandclaa.D1
theorem j2_ok (b x3 : List Int) (x39 : Bool) (i h : Int) (hx : x39 = true → 0 < x3.length) (hl : x3.length ≤ 41) (hv : V b i) : ∃ w i' h', Ev (fun k => spec_l2DrawWeights.j2 k x3 x39 b i h) (w, i', h') ∧ w.length ≤ 41 ∧ V b i' := by
  cases x39 with
  | true =>
    obtain ⟨a, i1, h1, e1, _, v1⟩ := pick_ok b i h [(-1), 1000000000000000, 1000000000000001, 0] hv (by decide) (by decide)
    obtain ⟨o, i2, h2, e2, v2⟩ := once_ok b i1 h1 25 v1 (by decide)
    cases o with
    | true =>
      refine ⟨List.replicate 3 0, i2, h2, Ev_one fun k => ?_, by decide, v2⟩
      simp only [spec_l2DrawWeights.j2]
      rw [if_pos trivial, e1, Option.bind_some, if_pos (by have := hx rfl; omega), e2, Option.bind_some, if_pos rfl, if_pos (by decide)]
    | false =>
      refine ⟨x3.set 0 a, i2, h2, Ev_one fun k => ?_, by rw [List.length_set]; exact hl, v2⟩
      simp only [spec_l2DrawWeights.j2]
      rw [if_pos trivial, e1, Option.bind_some, if_pos (by have := hx rfl; omega), e2, Option.bind_some, if_neg (by intro hh; cases hh)]
      rfl
  | false =>
    obtain ⟨o, i2, h2, e2, v2⟩ := once_ok b i h 25 hv (by decide)
    cases o with
    | true =>
      refine ⟨List.replicate 3 0, i2, h2, Ev_one fun k => ?_, by decide, v2⟩
      simp only [spec_l2DrawWeights.j2]
      rw [if_neg (by intro hh; cases hh), e2, Option.bind_some, if_pos rfl, if_pos (by decide)]
    | false =>
      refine ⟨x3, i2, h2, Ev_one fun k => ?_, hl, v2⟩
      simp only [spec_l2DrawWeights.j2]
      rw [if_neg (by intro hh; cases hh), e2, Option.bind_some, if_neg (by intro hh; cases hh)]
theorem l0_ok (b : List Int) (n : Nat) (hn : n ≤ 41) : ∀ (d j : Nat) (x3 : List Int) (i h : Int), n - j = d → j ≤ n → x3.length = j → V b i → ∃ w i' h', Ev (fun k => spec_l2DrawWeights.l0 k x3 (n : Int) (j : Int) b i h) (w, i', h') ∧ w.length ≤ 41 ∧ V b i' := by
  intro d
  induction d with
  | zero =>
    intro j x3 i h hd hj hl hv
    obtain rfl : j = n := by omega
    by_cases h0 : 0 < j
    · obtain ⟨o, i1, h1, e1, v1⟩ := once_ok b i h 15 hv (by decide)
      obtain ⟨w, i2, h2, e2, hw, v2⟩ := j2_ok b x3 o i1 h1 (fun _ => by omega) (by omega) v1
      refine ⟨w, i2, h2, Ev.step (fun k => ?_) e2, hw, v2⟩
      simp only [spec_l2DrawWeights.l0]
      rw [if_neg (by omega), if_pos (by omega), e1, Option.bind_some]
    · obtain ⟨w, i2, h2, e2, hw, v2⟩ := j2_ok b x3 false i h (fun e => Bool.noConfusion e) (by omega) hv
      refine ⟨w, i2, h2, Ev.step (fun k => ?_) e2, hw, v2⟩
      simp only [spec_l2DrawWeights.l0]
      rw [if_neg (by omega), if_neg (by omega)]
  | succ d ih =>
    intro j x3 i h hd hj hl hv
    obtain ⟨x, i1, h1, e1, _, _, _, v1⟩ := below_ok b i h 20 hv (by decide)
    obtain ⟨o, i2, h2, e2, v2⟩ := once_ok b i1 h1 6 v1 (by decide)
    cases o with
    | true =>
      obtain ⟨y, i3, h3, e3, _, _, _, v3⟩ := below_ok b i2 h2 2000000000 v2 (by decide)
      obtain ⟨z, i4, h4, e4, _, _, _, v4⟩ := below_ok b i3 h3 100 v3 (by decide)
      obtain ⟨w, i5, h5, e5, hw, v5⟩ := ih (j + 1) (x3 ++ [wrap64 (y * z)]) i4 h4 (by omega) (by omega) (by rw [List.length_append, hl]; rfl) v4
      refine ⟨w, i5, h5, Ev.step (fun k => ?_) e5, hw, v5⟩
      simp only [spec_l2DrawWeights.l0]
      rw [if_pos (by omega), e1, Option.bind_some, e2, Option.bind_some, if_pos rfl, e3, Option.bind_some, e4, Option.bind_some, if_pos (by omega), w_succ (by omega : j < n) (by omega)]
    | false =>
      obtain ⟨w, i5, h5, e5, hw, v5⟩ := ih (j + 1) (x3 ++ [x]) i2 h2 (by omega) (by omega) (by rw [List.length_append, hl]; rfl) v2
      refine ⟨w, i5, h5, Ev.step (fun k => ?_) e5, hw, v5⟩
      simp only [spec_l2DrawWeights.l0]
      rw [if_pos (by omega), e1, Option.bind_some, e2, Option.bind_some, if_neg (by intro hh; cases hh), if_pos (by omega), w_succ (by omega : j < n) (by omega)]
theorem weights_ok (b : List Int) (i h : Int) (hv : V b i) : ∃ w i' h', Ev (fun k => spec_l2DrawWeights.f k b i h) (w, i', h') ∧ w.length ≤ 41 ∧ V b i' := by
  obtain ⟨x, i1, h1, e1, x0, x1, _, v1⟩ := below_ok b i h 6 hv (by decide)
  obtain ⟨o, i2, h2, e2, v2⟩ := once_ok b i1 h1 15 v1 (by decide)
  have hx := x1 (by decide)
  cases o with
  | true =>
    obtain ⟨y, i3, h3, e3, hy, v3⟩ := pick_ok b i2 h2 [0, 40, 41] v2 (by decide) (by decide)
    obtain ⟨n, hn, rfl⟩ : ∃ n : Nat, n ≤ 41 ∧ y = (n : Int) := by
      simp only [List.mem_cons, List.not_mem_nil, or_false] at hy
      exact ⟨y.toNat, by omega, by omega⟩
    obtain ⟨w, i4, h4, e4, hw, v4⟩ := l0_ok b n hn n 0 [] i3 h3 (by omega) (by omega) rfl v3
    refine ⟨w, i4, h4, ?_, hw, v4⟩
    unfold spec_l2DrawWeights.f
    refine Ev.congr (f := fun k => spec_l2DrawWeights.j0 k [] (n : Int) b i3 h3) (fun k => ?_) (Ev.step (fun k => ?_) e4)
    · rw [Option.bind_some, e1, Option.bind_some, e2, Option.bind_some, if_pos rfl, e3, Option.bind_some]
    · simp only [spec_l2DrawWeights.j0]
      rfl
  | false =>
    obtain ⟨n, hn, e⟩ : ∃ n : Nat, n ≤ 41 ∧ wrap64 (1 + x) = (n : Int) := ⟨(1 + x).toNat, by omega, by unfold wrap64; omega⟩
    obtain ⟨w, i4, h4, e4, hw, v4⟩ := l0_ok b n hn n 0 [] i2 h2 (by omega) (by omega) rfl v2
    refine ⟨w, i4, h4, ?_, hw, v4⟩
    unfold spec_l2DrawWeights.f
    refine Ev.congr (f := fun k => spec_l2DrawWeights.j0 k [] (n : Int) b i2 h2) (fun k => ?_) (Ev.step (fun k => ?_) e4)
    · rw [Option.bind_some, e1, Option.bind_some, e2, Option.bind_some, if_neg (by intro hh; cases hh)]
      show spec_l2DrawWeights.j0 k [] (wrap64 (1 + x)) b i2 h2 = _
      rw [e]
    · simp only [spec_l2DrawWeights.j0]
      rfl
theorem total_ok (b : List Int) (i h : Int) (hv : V b i) : ∃ t i' h', spec_l2DrawTotal.f b i h = some (t, i', h') := by
  obtain ⟨o, i1, h1, e1, v1⟩ := once_ok b i h 8 hv (by decide)
  unfold spec_l2DrawTotal.f
  rw [e1, Option.bind_some]
  cases o with
  | true =>
    obtain ⟨y, i3, h3, e3, _, v3⟩ := pick_ok b i1 h1 [0, (-1), 1000000000000000, 1000000000000001] v1 (by decide) (by decide)
    exact ⟨y, i3, h3, by rw [if_pos rfl, e3]; rfl⟩
  | false =>
    obtain ⟨y, i3, h3, e3, _, _, _, v3⟩ := below_ok b i1 h1 1000 v1 (by decide)
    exact ⟨y, i3, h3, by rw [if_neg (by intro hh; cases hh), e3]; rfl⟩
theorem both_ok (l : List Int) (hl : l.length ≤ 140737488351232) : ∃ t w, Ev (fun k => spec_l2DrawBoth.f k l) (t, w) ∧ w.length ≤ 41 := by
  obtain ⟨h0, e0⟩ := new_ok l hl
  obtain ⟨w, i1, h1, e1, hw, v1⟩ := weights_ok l 0 h0 ⟨by omega, by omega, hl⟩
  obtain ⟨t, i2, h2, e2⟩ := total_ok l i1 h1 v1
  refine ⟨t, w, ?_, hw⟩
  unfold spec_l2DrawBoth.f
  refine Ev_bind e0 (Ev_bind e1 (Ev_all_k fun k => ?_))
  show (spec_l2DrawTotal.f l i1 h1).bind _ = _
  rw [e2]
  rfl
end Go.Proofs.Ytpnejhelandclaa.W5
namespace Go.Proofs.Ytpnejhelandclaa.W6
open Go Go.RowKit Go.Proofs.Ytpnejhelandclaa Go.Proofs.Ytpnejhelandclaa.P Go.Proofs.YtpnejhelandclaaW.PrintWords Go.Proofs.YtpnejhelandclaaW.PrintLast Go.Proofs.Ytpnejhelandclaa.EV Go.Proofs.Ytpnejhelandclaa.I1 Go.Proofs.Ytpnejhelandclaa.A2 Go.Proofs.Ytpnejhelandclaa.TI Go.Proofs.Ytpnejhelandclaa.W1 Go.Proofs.Ytpnejhelandclaa.W2 Go.Proofs.Ytpnejhelandclaa.W3 Go.Proofs.Ytpnejhelandclaa.W4 Go.Proofs.Ytpnejhelandclaa.S7
theorem incL_at : ∀ (xs : List Int) (Q : List Int) (B : Int), (∀ j : Nat, j < Q.length → 0 ≤ Q.getD j 0 ∧ Q.getD j 0 ≤ B) → B + xs.length ≤ 4000000000000000000 → xs.Nodup → (∀ x ∈ xs, 0 ≤ x ∧ x < (Q.length : Int)) → ∀ j : Nat, j < Q.length → (incL Q xs).getD j 0 = Q.getD j 0 + if (j : Int) ∈ xs then 1 else 0
  | [], Q, B, hQ, hB, hn, hx, j, hj => by
    rw [if_neg (List.not_mem_nil)]
    show Q.getD j 0 = _
    omega
  | x :: xs, Q, B, hQ, hB, hn, hx, j, hj => by
    have hx0 := hx x (List.mem_cons_self ..)
    obtain ⟨i, rfl⟩ := Int.eq_ofNat_of_zero_le hx0.1
    have hi : i < Q.length := by omega
    have hq := hQ i hi
    rw [List.length_cons] at hB
    have hn' := List.nodup_cons.1 hn
    show (incL (Q.set (i : Int).toNat (wrap64 (rd Q (i : Int) + 1))) xs).getD j 0 = _
    rw [rdi, Int.toNat_natCast, w64_in _ (by omega) (by omega)]
    have ih := incL_at xs (Q.set i (Q.getD i 0 + 1)) (B + 1) (fun k hk => by
      rw [List.length_set] at hk
      have := hQ k hk
      rw [getD_set]
      split
      · omega
      · omega) (by omega) hn'.2 (fun y hy => by rw [List.length_set]; exact hx y (List.mem_cons_of_mem _ hy)) j (by rw [List.length_set]; exact hj)
    rw [ih, getD_set]
    by_cases e : i = j
    · subst e
      rw [if_pos ⟨rfl, hj⟩, if_neg hn'.1, if_pos (List.mem_cons_self ..)]
      omega
    · rw [if_neg (fun g => e g.1)]
      have : ((j : Int) ∈ ((i : Int) :: xs)) ↔ (j : Int) ∈ xs := by
        rw [List.mem_cons]
        exact ⟨fun h => h.resolve_left (by omega), .inr⟩
      by_cases g : (j : Int) ∈ xs
      · rw [if_pos g, if_pos (this.2 g)]
      · rw [if_neg g, if_neg (fun h => g (this.1 h))]
theorem perm_sum {a b : List Int} (h : a.Perm b) : a.sum = b.sum := by
  induction h with
  | nil => rfl
  | cons x _ ih => rw [List.sum_cons, List.sum_cons, ih]
  | swap x y l => rw [List.sum_cons, List.sum_cons, List.sum_cons, List.sum_cons]; omega
  | trans _ _ h1 h2 => exact h1.trans h2
theorem sum_le (M : Int) : ∀ (l : List Int), (∀ x ∈ l, x ≤ M) → l.sum ≤ l.length * M
  | [], _ => by simp
  | x :: l, h => by
    have := sum_le M l fun y hy => h y (List.mem_cons_of_mem _ hy)
    have := h x (List.mem_cons_self ..)
    rw [List.sum_cons, List.length_cons, Int.natCast_add, Int.add_mul]
    simp
    omega
section
variable {t : Int} {l : List Int}
noncomputable def top (t : Int) (l : List Int) : List Int := (ord (rm t l) l.length).take (moreN t l)
theorem len40 (ho : OkW l) : l.length ≤ 40 := by have := ho.1.2.1; omega
theorem top_mem (ho : OkW l) {x : Int} (h : x ∈ top t l) : 0 ≤ x ∧ x < l.length := (ord_mem (rm t l) (len40 ho)).1 (List.mem_of_mem_take h)
theorem top_nodup (ho : OkW l) : (top t l).Nodup := (ord_nodup (rm t l) (len40 ho)).sublist (List.take_sublist _ _)
theorem top_ahead (ho : OkW l) {x y : Int} (hx : x ∈ top t l) (hy : 0 ≤ y ∧ y < l.length) (hn : y ∉ top t l) : lt (rm t l) x y := by
  have hm := (ord_mem (rm t l) (len40 ho)).2 hy
  have hp := (ord_ok (rm t l) (len40 ho)).2
  rw [← List.take_append_drop (moreN t l) (ord (rm t l) l.length)] at hm hp
  rcases List.mem_append.1 hm with h | h
  · exact absurd h hn
  · exact (List.pairwise_append.1 hp).2.2 x hx y h
theorem top_rem (ho : OkW l) (ht : InT t) (i : Nat) (_hi : i < l.length) (h : (i : Int) ∈ top t l) : rm t l (i : Int) ≠ 0 := by
  intro h0
  obtain ⟨m1, m2, m3⟩ := more_range ho ht
  have ok := ord_ok (rm t l) (len40 ho)
  have hmn : ((moreN t l : Nat) : Int) = t - (qP t l l.length).sum := by unfold moreN; omega
  obtain ⟨A, B, hAB⟩ := List.append_of_mem h
  have hAl : A.length < moreN t l := by
    have : (top t l).length ≤ moreN t l := by unfold top; rw [List.length_take]; omega
    rw [hAB, List.length_append, List.length_cons] at this
    omega
  have e : ord (rm t l) l.length = A ++ (i : Int) :: (B ++ (ord (rm t l) l.length).drop (moreN t l)) := by
    conv => lhs; rw [← List.take_append_drop (moreN t l) (ord (rm t l) l.length)]
    show top t l ++ _ = _
    rw [hAB]
    simp
  generalize B ++ (ord (rm t l) l.length).drop (moreN t l) = C at e
  have hs : (overP t l l.length).sum = ((ord (rm t l) l.length).map (rm t l)).sum := by
    have e1 : overP t l l.length = (idx l.length).map (rm t l) := by unfold overP idx; rw [List.map_map]; rfl
    rw [e1]
    exact perm_sum (ok.1.map _).symm
  rw [e, List.map_append, List.map_cons, List.sum_append, List.sum_cons, h0] at hs
  have hmem : ∀ x ∈ ord (rm t l) l.length, 0 ≤ rm t l x ∧ rm t l x ≤ l.sum - 1 := by
    intro x hx
    have hb := (ord_mem (rm t l) (len40 ho)).1 hx
    obtain ⟨j, rfl⟩ := Int.eq_ofNat_of_zero_le hb.1
    have := rm_range ho ht j (by omega)
    omega
  have hpw := ok.2
  rw [e] at hpw hmem
  have hC : (C.map (rm t l)).sum ≤ (C.map (rm t l)).length * 0 := by
    refine sum_le 0 _ fun y hy => ?_
    obtain ⟨x, hx, rfl⟩ := List.mem_map.1 hy
    have := (List.pairwise_cons.1 (List.pairwise_append.1 hpw).2.1).1 x hx
    unfold lt at this
    omega
  have hA : (A.map (rm t l)).sum ≤ (A.map (rm t l)).length * (l.sum - 1) := by
    refine sum_le _ _ fun y hy => ?_
    obtain ⟨x, hx, rfl⟩ := List.mem_map.1 hy
    exact (hmem x (List.mem_append_left _ hx)).2
  rw [List.length_map] at hA
  have hW := ho.2.1
  have h5 : (A.length : Int) * (l.sum - 1) ≤ ((moreN t l : Nat) : Int) * (l.sum - 1) := Int.mul_le_mul_of_nonneg_right (by omega) (by omega)
  have h6 : ((moreN t l : Nat) : Int) * (l.sum - 1) = ((moreN t l : Nat) : Int) * l.sum - ((moreN t l : Nat) : Int) := by rw [Int.mul_sub, Int.mul_one]
  rw [← hmn] at m1
  rw [Int.mul_zero] at hC
  omega
noncomputable def parts (t : Int) (l : List Int) : List Int := incL (qP t l l.length) (top t l)
theorem parts_length : (parts t l).length = l.length := by unfold parts; rw [incL_length, qP_length]
theorem parts_at (ho : OkW l) (ht : InT t) (i : Nat) (hi : i < l.length) : (parts t l).getD i 0 = qt t l i + if (i : Int) ∈ top t l then 1 else 0 := by
  unfold parts
  have hf := qP_few ho ht
  rw [incL_at (top t l) (qP t l l.length) 1000000000000000 (fun j hj => by have := hf.at j hj; omega) (by
    have : (top t l).length ≤ (ord (rm t l) l.length).length := by unfold top; rw [List.length_take]; omega
    rw [ord_length _ (len40 ho)] at this
    have := len40 ho
    omega) (top_nodup ho) (fun x hx => by rw [qP_length]; exact top_mem ho hx) i (by rw [qP_length]; exact hi), qP_at t l l.length i hi]
theorem set_sum : ∀ (Q : List Int) (i : Nat) (x : Int), i < Q.length → (Q.set i x).sum = Q.sum + x - Q.getD i 0
  | [], i, x, h => by simp at h
  | y :: Q, 0, x, _ => by
    rw [List.set_cons_zero, List.sum_cons, List.sum_cons]
    show _ = y + Q.sum + x - y
    omega
  | y :: Q, i + 1, x, h => by
    rw [List.set_cons_succ, List.sum_cons, List.sum_cons, set_sum Q i x (by simpa using h)]
    show _ = y + Q.sum + x - Q.getD i 0
    omega
theorem incL_sum : ∀ (xs Q : List Int) (B : Int), (∀ j : Nat, j < Q.length → 0 ≤ Q.getD j 0 ∧ Q.getD j 0 ≤ B) → B + xs.length ≤ 4000000000000000000 → (∀ x ∈ xs, 0 ≤ x ∧ x < (Q.length : Int)) → (incL Q xs).sum = Q.sum + xs.length
  | [], Q, B, hQ, hB, hx => by
    show Q.sum = _
    simp
  | x :: xs, Q, B, hQ, hB, hx => by
    have hx0 := hx x (List.mem_cons_self ..)
    obtain ⟨i, rfl⟩ := Int.eq_ofNat_of_zero_le hx0.1
    have hi : i < Q.length := by omega
    have hq := hQ i hi
    rw [List.length_cons] at hB
    show (incL (Q.set (i : Int).toNat (wrap64 (rd Q (i : Int) + 1))) xs).sum = _
    rw [rdi, Int.toNat_natCast, w64_in _ (by omega) (by omega)]
    rw [incL_sum xs (Q.set i (Q.getD i 0 + 1)) (B + 1) (fun k hk => by
      rw [List.length_set] at hk
      have := hQ k hk
      rw [getD_set]
      split
      · omega
      · omega) (by omega) (fun y hy => by rw [List.length_set]; exact hx y (List.mem_cons_of_mem _ hy)), set_sum Q i _ hi, List.length_cons]
    omega
theorem parts_sum (ho : OkW l) (ht : InT t) : (parts t l).sum = t := by
  obtain ⟨m1, m2, m3⟩ := more_range ho ht
  have hmn : ((moreN t l : Nat) : Int) = t - (qP t l l.length).sum := by unfold moreN; omega
  have hf := qP_few ho ht
  have hl : (top t l).length = moreN t l := by
    unfold top
    rw [List.length_take, ord_length _ (len40 ho)]
    omega
  have := len40 ho
  unfold parts
  rw [incL_sum (top t l) (qP t l l.length) 1000000000000000 (fun j hj => by have := hf.at j hj; omega) (by omega) (fun x hx => by rw [qP_length]; exact top_mem ho hx), hl]
  omega
theorem parts_mono (ho : OkW l) (ht : InT t) (i k : Nat) (hi : i < l.length) (hk : k < l.length) (hw : l.getD k 0 < l.getD i 0) : (parts t l).getD k 0 ≤ (parts t l).getD i 0 := by
  rw [parts_at ho ht i hi, parts_at ho ht k hk]
  have hW := ho.2.1
  have qi := qt_eq ho ht i hi
  have qk := qt_eq ho ht k hk
  have ri := rm_eq ho ht i hi
  have rk := rm_eq ho ht k hk
  have hm : t * l.getD k 0 ≤ t * l.getD i 0 := Int.mul_le_mul_of_nonneg_left (by omega) ht.1
  have hq : qt t l k ≤ qt t l i := by rw [qi, qk]; exact Int.ediv_le_ediv (by omega) hm
  by_cases ek : (k : Int) ∈ top t l
  · rw [if_pos ek]
    by_cases ei : (i : Int) ∈ top t l
    · rw [if_pos ei]
      omega
    · rw [if_neg ei]
      by_cases hlt : qt t l k < qt t l i
      · omega
      · exfalso
        have ha := top_ahead ho ek ⟨by omega, by omega⟩ ei
        have e1 : t * l.getD i 0 / l.sum * l.sum + t * l.getD i 0 % l.sum = t * l.getD i 0 := Int.ediv_mul_add_emod _ _
        have e2 : t * l.getD k 0 / l.sum * l.sum + t * l.getD k 0 % l.sum = t * l.getD k 0 := Int.ediv_mul_add_emod _ _
        rw [← qi, ← ri] at e1
        rw [← qk, ← rk] at e2
        have eq : qt t l k = qt t l i := by omega
        rw [eq] at e2
        have hz := top_rem ho ht k hk ek
        have hr := rm_range ho ht k hk
        have e3 : t * l.getD i 0 = t * l.getD k 0 + t * (l.getD i 0 - l.getD k 0) := by rw [Int.mul_sub]; omega
        unfold lt at ha
        -- what is left over of i is no less, and where it is as much there is no total
        have h4 : rm t l i = rm t l k + t * (l.getD i 0 - l.getD k 0) := by omega
        have h5 : 0 ≤ t * (l.getD i 0 - l.getD k 0) := Int.mul_nonneg ht.1 (by omega)
        have h6 : t * (l.getD i 0 - l.getD k 0) = 0 := by omega
        have h7 : t = 0 := by
          rcases Int.mul_eq_zero.1 h6 with h | h
          · exact h
          · omega
        exact hz (rk.trans (by rw [h7, Int.zero_mul, Int.zero_emod]))
  · rw [if_neg ek]
    split <;> omega
end
end Go.Proofs.Ytpnejhelandclaa.W6
namespace Go.Proofs.Ytpnejhelandclaa.Pure
open Go Go.RowKit Go.Proofs.Ytpnejhelandclaa.P Go.Proofs.YtpnejhelandclaaW.PrintWords Go.Proofs.YtpnejhelandclaaW.PrintLast Go.Proofs.Ytpnejhelandclaa.EV Go.Proofs.Ytpnejhelandclaa.I1 Go.Proofs.Ytpnejhelandclaa.TI Go.Proofs.Ytpnejhelandclaa.W1 Go.Proofs.Ytpnejhelandclaa.W2 Go.Proofs.Ytpnejhelandclaa.W3 Go.Proofs.Ytpnejhelandclaa.W4 Go.Proofs.Ytpnejhelandclaa.W5 Go.Proofs.Ytpnejhelandclaa.W6 Go.Proofs.Ytpnejhelandclaa.S7
theorem inner (t : Int) (l : List Int) (ho : OkW l) (ht : InT t) (i : Nat) (hi : i < l.length) (s R : _) (hR : Ev (fun k => laws_FnShares.l0 k t l (parts t l) (wrap64 (s + (parts t l).getD i 0)) ((i + 1 : Nat) : Int)) R) :
    ∀ (d j : Nat), i - j = d → j ≤ i → Ev (fun k => laws_FnShares.l1 k t l (parts t l) s (i : Int) (j : Int)) R := by
  have hn := len40 ho
  have pl : (parts t l).length = l.length := parts_length
  intro d
  induction d with
  | zero =>
    intro j hd hj
    obtain rfl : j = i := by omega
    refine Ev.step (fun k => ?_) hR
    simp only [laws_FnShares.l1]
    rw [if_neg (by omega), if_pos (by omega), if_pos (by omega), rdi, w_succ hi (by omega)]
  | succ d ih =>
    intro j hd hj
    refine Ev.step (fun k => ?_) (ih (j + 1) (by omega) (by omega))
    simp only [laws_FnShares.l1]
    rw [if_pos (by omega), if_pos (by omega), if_pos (by omega), if_pos (by omega), if_pos (by omega)]
    simp only [rdi]
    rw [w_succ (by omega : j < l.length) (by omega)]
    by_cases g : l.getD j 0 > l.getD i 0
    · have hm := parts_mono ho ht j i (by omega) hi g
      rw [if_pos g, if_pos (by omega), if_pos (by omega), if_neg (by omega), if_neg (by omega)]
    · rw [if_neg g]
      by_cases g2 : l.getD j 0 < l.getD i 0
      · have hm := parts_mono ho ht i j hi (by omega) g2
        rw [if_pos g2, if_pos (by omega), if_pos (by omega), if_neg (by omega)]
      · rw [if_neg g2]
theorem outer (t : Int) (l : List Int) (ho : OkW l) (ht : InT t) : ∀ (d i : Nat), l.length - i = d → i ≤ l.length → Ev (fun k => laws_FnShares.l0 k t l (parts t l) ((parts t l).take i).sum (i : Int)) true := by
  have hn := len40 ho
  have pl : (parts t l).length = l.length := parts_length
  have hW := ho.2.1
  intro d
  induction d with
  | zero =>
    intro i hd hi
    obtain rfl : i = l.length := by omega
    exact Ev_one fun k => by
      simp only [laws_FnShares.l0]
      rw [if_neg (by omega)]
      have e : (parts t l).take l.length = parts t l := by rw [← pl, List.take_length]
      rw [e, parts_sum ho ht, if_pos rfl, pl]
      simp
  | succ d ih =>
    intro i hd hi
    have hi' : i < l.length := by omega
    have pa := parts_at ho ht i hi'
    have qr := qt_range ho ht i hi'
    have ht' := ht
    unfold InT at ht'
    have q1 : wrap64 (qt t l i + 1) = qt t l i + 1 := w64_in _ (by omega) (by omega)
    have hq : quota t l (i : Int) = (qt t l i, rm t l i, true) := by
      have := W4.part ho ht i hi'
      unfold qt rm
      rw [this]
    have next := ih (i + 1) (by omega) (by omega)
    have ps : ∀ j : Nat, j ≤ l.length → 0 ≤ ((parts t l).take j).sum ∧ ((parts t l).take j).sum ≤ j * 1000000000000001 := by
      intro j
      induction j with
      | zero => intro _; simp
      | succ j ihj =>
        intro hj
        have h1 := ihj (by omega)
        have pj := parts_at ho ht j (by omega)
        have qj := qt_range ho ht j (by omega)
        have e : (parts t l).take (j + 1) = (parts t l).take j ++ [(parts t l).getD j 0] := by
          rw [List.take_add_one, List.getD_eq_getElem?_getD, List.getElem?_eq_getElem (by omega : j < (parts t l).length)]
          rfl
        have e2 : (((parts t l).take j) ++ [(parts t l).getD j 0]).sum = ((parts t l).take j).sum + (parts t l).getD j 0 := by rw [List.sum_append]; simp
        rw [e, e2, pj]
        split <;> omega
    have es : ((parts t l).take (i + 1)).sum = ((parts t l).take i).sum + (parts t l).getD i 0 := by
      have e : (parts t l).take (i + 1) = (parts t l).take i ++ [(parts t l).getD i 0] := by
        rw [List.take_add_one, List.getD_eq_getElem?_getD, List.getElem?_eq_getElem (by omega : i < (parts t l).length)]
        rfl
      rw [e, List.sum_append]
      simp
    have b1 := ps i hi
    have b2 := ps (i + 1) (by omega)
    have ew : wrap64 (((parts t l).take i).sum + (parts t l).getD i 0) = ((parts t l).take (i + 1)).sum := by rw [es, w64_in _ (by omega) (by omega)]
    have hin := inner t l ho ht i hi' ((parts t l).take i).sum true (by rw [ew]; exact next) i 0 (by omega) (by omega)
    have hj1 : Ev (fun k => laws_FnShares.j1 k t l (parts t l) ((parts t l).take i).sum (i : Int) false) true := Ev.step (fun k => by simp only [laws_FnShares.j1]; rw [if_neg (by decide)]; rfl) hin
    have hge : ¬ (parts t l).getD i 0 < qt t l i := by rw [pa]; split <;> omega
    have hle : ¬ (parts t l).getD i 0 > qt t l i + 1 := by rw [pa]; split <;> omega
    have hwz : l.getD i 0 = 0 → (parts t l).getD i 0 = 0 := by
      intro h0
      have e1 := qt_eq ho ht i hi'
      have e2 := rm_eq ho ht i hi'
      rw [h0, Int.mul_zero, Int.zero_ediv] at e1
      rw [h0, Int.mul_zero, Int.zero_emod] at e2
      rw [pa, e1]
      by_cases g : (i : Int) ∈ top t l
      · exact absurd e2 (top_rem ho ht i hi' g)
      · rw [if_neg g]
        rfl
    refine Ev.step (f := fun k => (impl_ShareQuota.f k t l (i : Int)).bind fun bt500 => (if bt500.2.2 = true then (if 0 ≤ (i : Int) then (if (rd (parts t l) i) < bt500.1 then (none) else (if (rd (parts t l) i) > (wrap64 (bt500.1 + 1)) then (none) else (if (rd (parts t l) i) = (wrap64 (bt500.1 + 1)) then (if bt500.2.1 = 0 then (none) else (if (i : Int) < (l.length : Int) then (if (rd l i) = 0 then (laws_FnShares.j1 k t l (parts t l) ((parts t l).take i).sum i ((rd (parts t l) i) != 0)) else (laws_FnShares.j1 k t l (parts t l) ((parts t l).take i).sum i false)) else (none))) else (if (i : Int) < (l.length : Int) then (if (rd l i) = 0 then (laws_FnShares.j1 k t l (parts t l) ((parts t l).take i).sum i ((rd (parts t l) i) != 0)) else (laws_FnShares.j1 k t l (parts t l) ((parts t l).take i).sum i false)) else (none))))) else (none)) else (none))) (fun k => ?_) (Ev_bind (quota_i t l _) (Ev.congr (fun k => ?_) hj1))
    · simp only [laws_FnShares.l0]
      rw [if_pos (by omega)]
    · rw [hq]
      simp only [rdi]
      rw [if_pos trivial, if_pos (by omega), q1, if_neg hge, if_neg hle]
      have tail : (if l.getD i 0 = 0 then laws_FnShares.j1 k t l (parts t l) ((parts t l).take i).sum i ((parts t l).getD i 0 != 0) else laws_FnShares.j1 k t l (parts t l) ((parts t l).take i).sum i false) = laws_FnShares.j1 k t l (parts t l) ((parts t l).take i).sum i false := by
        by_cases h0 : l.getD i 0 = 0
        · rw [if_pos h0, hwz h0]
          rfl
        · rw [if_neg h0]
      by_cases g : (parts t l).getD i 0 = qt t l i + 1
      · have hr0 : ¬ rm t l (i : Int) = 0 := by
          intro h0
          rw [pa] at g
          by_cases g2 : (i : Int) ∈ top t l
          · exact top_rem ho ht i hi' g2 h0
          · rw [if_neg g2] at g
            omega
        rw [if_pos g, if_neg hr0, if_pos (by omega), tail]
      · rw [if_neg g, if_pos (by omega), tail]
theorem FnShares : laws_FnShares.Pure := by
  intro l hm hl _
  refine Ev.rounds ?_
  unfold laws_FnShares.f laws_big.f
  simp only [Option.bind_some]
  by_cases hb : (l.length : Int) > 1048576
  · exact Ev_all_k fun k => by rw [if_pos (decide_eq_true hb)]
  · refine Ev.congr (fun k => by rw [if_neg (by rw [decide_eq_false hb]; decide)]) ?_
    obtain ⟨t, w, hd, hw⟩ := both_ok l (by omega)
    have hd' : Ev (fun k => spec_DrawShares.f k l) (t, w) := by
      unfold spec_DrawShares.f
      exact Ev_bind hd (Ev.now _)
    refine Ev_bind hd' (Ev_bind (shares_i t w) (Ev_bind (shares_s t w) ?_))
    refine Ev.congr (fun k => if_neg (by simp)) ?_
    by_cases h : okW w = true ∧ InT t
    · have ho := (okW_iff w).1 h.1
      have e : sharesR t w = (parts t w, true) := by unfold sharesR; rw [if_pos h]; rfl
      rw [e]
      refine Ev.congr (fun k => if_pos rfl) ?_
      exact outer t w ho h.2 w.length 0 (by omega) (by omega)
    · have e : sharesR t w = ([], false) := by unfold sharesR; rw [if_neg h]
      rw [e]
      exact Ev_all_k fun k => by rw [if_neg (by decide)]; rfl
end Go.Proofs.Ytpnejhelandclaa.Pure
namespace Go.Proofs.YtpnejhelandclaaW.PrintWords
open Go.ChangeShapes Go.WideShapes
theorem sized_ints {H : Type} {enc : TypeId × Value → H} {P : Program} {W : World} {base : Nat} {spare : Nat → Bool} {held : Bool} {t e : TypeId} {k : IntKind} {a : Option Addr} {len cap : Nat} {d : DataW H} {ps : List MemPlace} {ts : List TypeId} {ds : List (DataW H)} {j : Nat}
    (hsz : (DataW.weightsEach P ts ds).all (· ≤ reachBytes) = true) (ht : ts[j]? = some t) (hd : ds[j]? = some d) (hu : P.underlying t = some (.slice e)) (he : P.underlying e = some (.int k)) (hc : P.cellsOf e = 1) {B : Nat} (hB : P.bytesOf e = B)
    (h : DataW.Trod enc P W base spare held t (.slice a len cap) d ps) : len * B ≤ 140737488351232 := by
  obtain ⟨fuel, hf⟩ := h
  rcases open_ints hu he hc hf with ⟨hcs, _⟩ | ⟨x, l, c, zs, hcs, _, hl, _, hz, hx, _, _⟩
  · simp [Value.cells] at hcs
    obtain ⟨rfl, rfl, rfl⟩ := hcs
    simp
  · simp [Value.cells] at hcs
    obtain ⟨rfl, rfl, rfl⟩ := hcs
    obtain ⟨hx, _⟩ := Prod.mk.inj hx
    subst hx
    have z := sized_slice hsz ht hd hu
    rw [hB] at z
    have hl2 : len ≤ zs.length := by
      rw [hz]
      split
      · exact hl
      · exact Nat.le_refl _
    have h1 : (lits (H := H) k (zs.take len)).length + (lits (H := H) k (zs.drop len)).length = zs.length := by
      simp [lits]
      omega
    rw [h1] at z
    exact Nat.le_trans (Nat.mul_le_mul_right _ hl2) z
end Go.Proofs.YtpnejhelandclaaW.PrintWords
namespace Go.Proofs.Ytpnejhelandclaa.fnShares
open Go.ChangeShapes Go.WideShapes Go.ChangeAt Go.RowKit
open Go.ChangeMaps (open_string shut_string)
set_option linter.unusedVariables false
theorem own : ownKnob Try.prog.godebug = none := by kernel_rfl
theorem laidOut : laidOutB Try.prog = true := by kernel_rfl
def IsRow (k : IntKind) (w : World) (a : Option Addr) (len cap : Nat) (zs : List Int) : Prop :=
  (a = none ∧ len = 0 ∧ cap = 0 ∧ zs = []) ∨
  ∃ x, a = some x ∧ len ≤ cap ∧ cap ≤ maxLen ∧ zs.length = cap ∧ (∀ i, i < zs.length → w.cell? (x.add i) = some (.int k (zs.getD i 0))) ∧ ∀ n ∈ zs, (Lit.int k n).wf = true
set_option maxRecDepth 100000 in
theorem lifted (os : Os) (started : os.Started) (H : Type) (enc : TypeId × Value → H) :
    ReturnsInHanded {} Try.checked os 8 .any (Rows.fnSharesSpec.pre6 enc Try.prog Try.f8 Rows.fnSharesRow.domain false) (Rows.fnSharesSpec.post enc Try.prog Try.f8 false true false false) := by
  refine returnsInHanded_of_change_sized (C := Try.checked) own started (by kernel_rfl) Try.func8
    (ChangeSpec.witness6 (enc := enc) (C := Try.checked) false ⟨#[], #[.slice none 0 0], []⟩ 8 (by kernel_rfl) (by kernel_rfl) (by kernel_rfl) (by kernel_rfl)) ?_
  intro W base args ds gs before hval0 hW hcnd hsz0 _
  have hsz : (DataW.weightsEach Try.prog (Try.f8.params.toList ++ Rows.fnSharesSpec.plain.varTypes Try.prog) (ds ++ gs)).all (· ≤ reachBytes) = true := hsz0
  have hval : ∀ (j : Nat) t v, Try.f8.params[j]? = some t → args[j]? = some v → Value.okWide Try.prog W .any base t v := hval0
  have hW' := hW
  obtain ⟨p, q, hA0, hV, rfl, hfz, hnd⟩ := hW
  have hA : DataW.TrodAll enc Try.prog W 0 (fun _ => true) true Try.f8.params.toList args.toList ds p := hA0
  rw [Try.params8] at hA hval hsz
  obtain ⟨v0, vs0, d0, ds0, p0, q0, hargs, rfl, rfl, h0, r0⟩ := trodAll_cons hA
  obtain ⟨rfl, rfl, rfl⟩ := trodAll_nil r0
  obtain rfl : args = #[v0] := by cases args; simp_all
  obtain ⟨rfl, rfl⟩ := trodVars_none hV
  obtain ⟨a0, len0, cap0, rfl⟩ := okWide_slice Try.underlying34 (hval 0 34 v0 rfl rfl)
  have k0 := h0
  have lt0 : ∀ x ∈ p0, x.block < W.heap.size := by obtain ⟨m, hm⟩ := k0; exact DataW.trod_lt m _ _ _ hm
  obtain ⟨z0, w0⟩ : ∃ zs, IsRow .u8 W a0 len0 cap0 zs := by
    obtain ⟨fuel, hf⟩ := h0
    rcases open_ints Try.underlying34 Try.underlying5 (by kernel_rfl) hf with ⟨hcs, _⟩ | ⟨x, l, c, zs, hcs, _, hl, hm, hz, _, hcell, hwz⟩
    · simp [Value.cells] at hcs
      obtain ⟨rfl, rfl, rfl⟩ := hcs
      exact ⟨[], .inl ⟨rfl, rfl, rfl, rfl⟩⟩
    · simp [Value.cells] at hcs
      obtain ⟨rfl, rfl, rfl⟩ := hcs
      exact ⟨zs, .inr ⟨_, rfl, hl, hm, by simpa using hz, hcell, hwz⟩⟩
  have y0 : len0 * 1 ≤ 140737488351232 := Go.Proofs.YtpnejhelandclaaW.PrintWords.sized_ints hsz (j := 0) (t := 34) rfl rfl Try.underlying34 Try.underlying5 (by kernel_rfl) (by kernel_rfl) h0
  clear hA0 hval0 hsz0 hsz
  refine (P.laws_FnShares.walk Pure.FnShares a0 len0 cap0 z0 W w0 y0).mono fun e W' ⟨he, bel⟩ => ?_
  subst he
  exact ⟨_, rfl, _, _, _, [], _, [], hW', trodAll_mk1 (shut_bool Try.underlying4 _), (trodAll_cons_mk (Below.trod laidOut (by kernel_rfl) (of_decide_eq_true (by kernel_rfl)) k0 bel lt0) trodAll_mk0), rfl, bel.frame _, fun h => by cases h⟩
theorem over : Rows.fnSharesRow.holds Try.pinned (OpenSpec.ofChange Rows.fnSharesSpec) :=
  OpenClaim.holds_of_wide 8 Try.f8 rfl rfl rfl rfl rfl rfl rfl ⟨rfl, rfl, rfl, rfl, rfl⟩ rfl rfl rfl rfl rfl (by kernel_rfl) Try.func8 (by kernel_rfl)
    (of_decide_eq_true (by kernel_rfl)) (by unfold Func.isWrapper; first | (rw [if_pos (by decide +kernel)]; kernel_rfl) | (rw [if_neg (by decide +kernel)]; exact ⟨rfl, rfl⟩))
    (fun os started H enc _ => lifted os started H enc)
theorem proved : Rows.FnSharesSaid := over
#print axioms proved
end Go.Proofs.Ytpnejhelandclaa.fnShares
namespace Go.Proofs.Ytpnejhelandclaa
theorem fnShares_holds : Rows.FnSharesSaid := fnShares.proved
end Go.Proofs.Ytpnejhelandclaa
