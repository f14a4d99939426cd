/- Quotients toward zero and their remainders: what is left, and of which sign. No program in sight. -/
import Derived.RowKit
import Derived.IntWalk
import Derived.Test.YtbgnbbbhjpngiaaL1
namespace Go.Proofs.Ytbgnbbbhjpngiaa.A3
open Go Go.RowKit Go.Proofs.Ytbgnbbbhjpngiaa.L1

theorem tq (a b : Int) (hb : b ≠ 0) : a = Int.tdiv a b * b + Int.tmod a b ∧ (0 ≤ a → 0 ≤ Int.tmod a b) ∧ (a ≤ 0 → Int.tmod a b ≤ 0) ∧ (0 < b → -b < Int.tmod a b ∧ Int.tmod a b < b) ∧ (b < 0 → b < Int.tmod a b ∧ Int.tmod a b < -b) ∧
    (0 ≤ a → -a ≤ Int.tdiv a b ∧ Int.tdiv a b ≤ a) ∧ (a ≤ 0 → a ≤ Int.tdiv a b ∧ Int.tdiv a b ≤ -a) := by
  have h0 : a = Int.tdiv a b * b + Int.tmod a b := (Int.tdiv_mul_add_tmod a b).symm
  refine ⟨h0, ?_⟩
  clear h0
  have pos : ∀ x y : Int, 0 ≤ x → 0 < y → 0 ≤ x % y ∧ x % y < y ∧ 0 ≤ x / y ∧ x / y ≤ x ∧ (x ≤ 0 → x % y = 0) := fun x y hx hy => ⟨Int.emod_nonneg _ (by omega), Int.emod_lt_of_pos _ hy, Int.ediv_nonneg hx (by omega), Int.ediv_le_self _ hx, fun h => by rw [show x = 0 by omega]; exact Int.zero_emod y⟩
  rcases (by omega : a < 0 ∨ 0 ≤ a) with ha | ha <;> rcases (by omega : b < 0 ∨ 0 < b) with hb2 | hb2
  · obtain ⟨x, rfl⟩ : ∃ x, a = -x := ⟨-a, by omega⟩
    obtain ⟨y, rfl⟩ : ∃ y, b = -y := ⟨-b, by omega⟩
    have p := pos x y (by omega) (by omega)
    rw [Int.neg_tdiv, Int.tdiv_neg, Int.neg_neg, Int.neg_tmod, Int.tmod_neg, Int.tdiv_eq_ediv_of_nonneg (by omega), Int.tmod_eq_emod_of_nonneg (by omega)]
    generalize x % y = m at *
    generalize x / y = t at *
    omega
  · obtain ⟨x, rfl⟩ : ∃ x, a = -x := ⟨-a, by omega⟩
    have p := pos x b (by omega) (by omega)
    rw [Int.neg_tdiv, Int.neg_tmod, Int.tdiv_eq_ediv_of_nonneg (by omega), Int.tmod_eq_emod_of_nonneg (by omega)]
    generalize x % b = m at *
    generalize x / b = t at *
    omega
  · obtain ⟨y, rfl⟩ : ∃ y, b = -y := ⟨-b, by omega⟩
    have p := pos a y (by omega) (by omega)
    rw [Int.tdiv_neg, Int.tmod_neg, Int.tdiv_eq_ediv_of_nonneg (by omega), Int.tmod_eq_emod_of_nonneg (by omega)]
    generalize a % y = m at *
    generalize a / y = t at *
    omega
  · have p := pos a b (by omega) (by omega)
    rw [Int.tdiv_eq_ediv_of_nonneg (by omega), Int.tmod_eq_emod_of_nonneg (by omega)]
    generalize a % b = m at *
    generalize a / b = t at *
    omega
end Go.Proofs.Ytbgnbbbhjpngiaa.A3
