/- What the first chapter's functions come to, in closed form: amounts, sums, differences, floors and products, the program's beside the reference's. -/
import Derived.Test.YtbgnbbbhjpngiaaPx0
import Derived.Test.YtbgnbbbhjpngiaaPx1
import Derived.Test.YtbgnbbbhjpngiaaPx2
import Derived.Test.YtbgnbbbhjpngiaaL1
namespace Go.Proofs.Ytbgnbbbhjpngiaa.A1
open Go Go.RowKit Go.Proofs.Ytbgnbbbhjpngiaa.P Go.Proofs.YtbgnbbbhjpngiaaW.PrintWords Go.Proofs.YtbgnbbbhjpngiaaW.PrintLast Go.Proofs.Ytbgnbbbhjpngiaa.L1

def amt (x : Int) : Bool := decide (-1000000000000000 ≤ x ∧ x ≤ 1000000000000000)
theorem amt_iff (x : Int) : amt x = true ↔ -1000000000000000 ≤ x ∧ x ≤ 1000000000000000 := by unfold amt; exact decide_eq_true_iff

theorem in_i (a lo hi : Int) : impl_in.f a lo hi = some (decide (lo ≤ a ∧ a ≤ hi)) := by
  unfold impl_in.f
  by_cases h : a ≥ lo
  · rw [if_pos h]
    congr 1
    rw [Bool.eq_iff_iff, decide_eq_true_iff, decide_eq_true_iff]
    omega
  · rw [if_neg h]
    congr 1
    symm
    rw [decide_eq_false_iff_not]
    omega
theorem in_s (a lo hi : Int) : spec_l1In.f a lo hi = some (decide (lo ≤ a ∧ a ≤ hi)) := by
  unfold spec_l1In.f
  by_cases h : a ≥ lo
  · rw [if_pos h]
    congr 1
    rw [Bool.eq_iff_iff, decide_eq_true_iff, decide_eq_true_iff]
    omega
  · rw [if_neg h]
    congr 1
    symm
    rw [decide_eq_false_iff_not]
    omega
theorem amountOk_i (x : Int) : impl_AmountOk.f x = some (amt x) := by
  unfold impl_AmountOk.f
  rw [in_i]
  rfl
theorem amountOk_s (x : Int) : spec_AmountOk.f x = some (amt x) := by
  unfold spec_AmountOk.f
  rw [in_s]
  rfl
theorem amount_i (x : Int) : impl_amount.f x = some (if amt x = true then (x, true) else (0, false)) := by
  unfold impl_amount.f
  rw [amountOk_i]
  simp only [Option.bind_some]
  split <;> rfl
theorem told_s (x : Int) (b : Bool) : spec_l1Told.f x b = some (if b = true ∧ amt x = true then (x, true) else (0, false)) := by
  unfold spec_l1Told.f
  rw [amountOk_s]
  simp only [Option.bind_some]
  cases b <;> cases amt x <;> rfl
theorem sum_fits {a b : Int} (ha : amt a = true) (hb : amt b = true) : wrap64 (a + b) = a + b := by
  rw [amt_iff] at ha hb
  exact w64_id _ (by omega) (by omega)
theorem dif_fits {a b : Int} (ha : amt a = true) (hb : amt b = true) : wrap64 (a - b) = a - b := by
  rw [amt_iff] at ha hb
  exact w64_id _ (by omega) (by omega)
def addR (a b : Int) : Int × Bool := if amt a = true ∧ amt b = true ∧ amt (a + b) = true then (a + b, true) else (0, false)
def subR (a b : Int) : Int × Bool := if amt a = true ∧ amt b = true ∧ amt (a - b) = true then (a - b, true) else (0, false)
theorem addIn_i (a b : Int) : impl_AddIn.f a b = some (addR a b) := by
  unfold impl_AddIn.f addR
  rw [amountOk_i, amountOk_i]
  simp only [Option.bind_some]
  cases ha : amt a with
  | false => simp
  | true =>
    cases hb : amt b with
    | false => simp
    | true =>
      rw [sum_fits ha hb, amount_i]
      simp only [Option.bind_some, if_true, true_and]
theorem addIn_s (a b : Int) : spec_AddIn.f a b = some (addR a b) := by
  unfold spec_AddIn.f addR
  rw [amountOk_s, amountOk_s]
  simp only [Option.bind_some]
  cases ha : amt a with
  | false => simp [told_s]
  | true =>
    cases hb : amt b with
    | false => simp [told_s]
    | true =>
      rw [sum_fits ha hb, told_s]
      simp only [Option.bind_some, if_true, true_and]
theorem subIn_i (a b : Int) : impl_SubIn.f a b = some (subR a b) := by
  unfold impl_SubIn.f subR
  rw [amountOk_i, amountOk_i]
  simp only [Option.bind_some]
  cases ha : amt a with
  | false => simp
  | true =>
    cases hb : amt b with
    | false => simp
    | true =>
      rw [dif_fits ha hb, amount_i]
      simp only [Option.bind_some, if_true, true_and]
theorem subIn_s (a b : Int) : spec_SubIn.f a b = some (subR a b) := by
  unfold spec_SubIn.f subR
  rw [amountOk_s, amountOk_s]
  simp only [Option.bind_some]
  cases ha : amt a with
  | false => simp [told_s]
  | true =>
    cases hb : amt b with
    | false => simp [told_s]
    | true =>
      rw [dif_fits ha hb, told_s]
      simp only [Option.bind_some, if_true, true_and]

def floorR (a b : Int) : Int := if Int.tmod a b = 0 then wrap64 (Int.tdiv a b) else if (decide (a < 0) != decide (b < 0)) = true then wrap64 (wrap64 (Int.tdiv a b) - 1) else wrap64 (Int.tdiv a b)
def divR (a b : Int) : Int × Bool := if amt a = true ∧ amt b = true ∧ b ≠ 0 then (floorR a b, true) else (0, false)
theorem divj_i (k : Nat) (a b : Int) (c : Bool) (hc : c = false → b ≠ 0) : impl_DivFloor.j0 (k + 1) a b c = some (if c = true then (0, false) else (floorR a b, true)) := by
  simp only [impl_DivFloor.j0]
  unfold floorR
  cases c with
  | true => rfl
  | false =>
    have nf : ¬ (false = true) := by decide
    rw [if_neg nf, if_neg (hc rfl), if_neg nf]
    by_cases h1 : Int.tmod a b = 0
    · rw [if_pos h1, if_pos h1]
    · rw [if_neg h1, if_neg h1]
      by_cases h2 : (decide (a < 0) != decide (b < 0)) = true
      · rw [if_pos h2, if_pos h2]
      · rw [if_neg h2, if_neg h2]
theorem divj_s (k : Nat) (a b : Int) (c : Bool) (hc : c = false → b ≠ 0) : spec_DivFloor.j0 (k + 1) a b c = some (if c = true then (0, false) else (floorR a b, true)) := by
  simp only [spec_DivFloor.j0]
  unfold floorR
  cases c with
  | true => rfl
  | false =>
    have nf : ¬ (false = true) := by decide
    rw [if_neg nf, if_neg (hc rfl), if_neg nf]
    by_cases h1 : Int.tmod a b = 0
    · rw [if_pos h1, if_pos h1]
    · rw [if_neg h1, if_neg h1]
      by_cases h2 : (decide (a < 0) != decide (b < 0)) = true
      · rw [if_pos h2, if_pos h2]
      · rw [if_neg h2, if_neg h2]
theorem divFloor_i (k : Nat) (a b : Int) : impl_DivFloor.f (k + 1) a b = some (divR a b) := by
  unfold impl_DivFloor.f divR
  rw [amountOk_i, amountOk_i]
  simp only [Option.bind_some]
  cases amt a with
  | false => rw [if_neg (by decide), divj_i k a b true (fun h => by cases h)]; simp
  | true =>
    cases amt b with
    | false => rw [if_pos rfl, if_neg (by decide), divj_i k a b true (fun h => by cases h)]; simp
    | true =>
      rw [if_pos rfl, if_pos rfl, divj_i k a b (b == 0) (fun h => by simpa using h)]
      by_cases hb : b = 0 <;> simp [hb]
theorem divFloor_s (k : Nat) (a b : Int) : spec_DivFloor.f (k + 1) a b = some (divR a b) := by
  unfold spec_DivFloor.f divR
  rw [amountOk_s, amountOk_s]
  simp only [Option.bind_some]
  cases amt a with
  | false => rw [if_neg (by decide), divj_s k a b true (fun h => by cases h)]; simp
  | true =>
    cases amt b with
    | false => rw [if_pos rfl, if_neg (by decide), divj_s k a b true (fun h => by cases h)]; simp
    | true =>
      rw [if_pos rfl, if_pos rfl, divj_s k a b (b == 0) (fun h => by simpa using h)]
      by_cases hb : b = 0 <;> simp [hb]

def abs' (x : Int) : Int := if x < 0 then -x else x
theorem abs_range {x : Int} (h : amt x = true) : 0 ≤ abs' x ∧ abs' x ≤ 1000000000000000 := by
  rw [amt_iff] at h
  unfold abs'
  split <;> omega
theorem abs_s {x : Int} (h : amt x = true) : spec_l1Abs.f x = some (abs' x) := by
  rw [amt_iff] at h
  unfold spec_l1Abs.f abs'
  split
  · rw [w64_id _ (by omega) (by omega)]
  · rfl
theorem unsigned_i {x : Int} (h : amt x = true) : impl_unsigned.f x = some (abs' x) := by
  rw [amt_iff] at h
  unfold impl_unsigned.f abs'
  split
  · rw [w64_id _ (by omega) (by omega), u64w_id _ (by omega) (by omega)]
  · rw [u64w_id _ (by omega) (by omega)]
theorem mul64_f (a b : Int) (ha0 : 0 ≤ a) (ha : a < 18446744073709551616) (hb0 : 0 ≤ b) (hb : b < 18446744073709551616) :
    bits_Mul64.f a b = some (a * b / 18446744073709551616, a * b % 18446744073709551616) := by
  unfold bits_Mul64.f
  rw [mul64 a b ha0 ha hb0 hb, u64w]
theorem abs_mul (a b : Int) : abs' a * abs' b = abs' (a * b) := by
  unfold abs'
  rcases Int.lt_trichotomy a 0 with ha | ha | ha <;> rcases Int.lt_trichotomy b 0 with hb | hb | hb
  · have := Int.mul_pos_of_neg_of_neg ha hb
    rw [if_pos ha, if_pos hb, if_neg (by omega), Int.neg_mul_neg]
  · subst hb; simp
  · have := Int.mul_neg_of_neg_of_pos ha hb
    rw [if_pos ha, if_neg (by omega), if_pos this, Int.neg_mul]
  · subst ha; simp
  · subst ha; simp
  · subst ha; simp
  · have := Int.mul_neg_of_pos_of_neg ha hb
    rw [if_neg (by omega), if_pos hb, if_pos this, Int.mul_neg]
  · subst hb; simp
  · have := Int.mul_pos ha hb
    rw [if_neg (by omega), if_neg (by omega), if_neg (by omega)]
theorem amt_abs (x : Int) : amt x = true ↔ abs' x ≤ 1000000000000000 := by
  rw [amt_iff]
  unfold abs'
  split <;> omega
def mulR (a b : Int) : Int × Bool := if amt a = true ∧ amt b = true ∧ amt (a * b) = true then (a * b, true) else (0, false)
theorem mul_big {a b : Int} (ha : amt a = true) (hb : amt b = true) : abs' a * abs' b ≤ 1000000000000000000000000000000 := by
  have h1 := abs_range ha
  have h2 := abs_range hb
  calc abs' a * abs' b ≤ 1000000000000000 * 1000000000000000 := Int.mul_le_mul h1.2 h2.2 h2.1 (by decide)
    _ = 1000000000000000000000000000000 := by decide
theorem mul_fits {a b : Int} (h : amt (a * b) = true) : wrap64 (a * b) = a * b := by
  rw [amt_iff] at h
  exact w64_id _ (by omega) (by omega)
theorem mulIn_i (k : Nat) (a b : Int) : impl_MulIn.f (k + 1) a b = some (mulR a b) := by
  unfold impl_MulIn.f mulR
  rw [amountOk_i, amountOk_i]
  simp only [Option.bind_some]
  cases ha : amt a with
  | false => simp [impl_MulIn.j0]
  | true =>
    cases hb : amt b with
    | false => simp [impl_MulIn.j0]
    | true =>
      have h1 := abs_range ha
      have h2 := abs_range hb
      have hp0 : 0 ≤ abs' a * abs' b := Int.mul_nonneg h1.1 h2.1
      have hp1 := mul_big ha hb
      have he := abs_mul a b
      have hq := amt_abs (a * b)
      rw [if_pos rfl]
      simp only [impl_MulIn.j0, Bool.not_true]
      rw [if_neg (by decide), unsigned_i ha, Option.bind_some, unsigned_i hb, Option.bind_some, mul64_f _ _ h1.1 (by omega) h2.1 (by omega), Option.bind_some]
      simp only [true_and]
      generalize abs' a * abs' b = p at *
      subst he
      by_cases hs : abs' (a * b) ≤ 1000000000000000
      · have hk := hq.mpr hs
        rw [if_pos (by omega), if_neg (by omega), if_pos hk, mul_fits hk]
      · have hk : ¬ amt (a * b) = true := fun h => hs (hq.mp h)
        rw [if_neg hk]
        split
        · rw [if_pos (by omega)]
        · rfl
theorem mulIn_s (k : Nat) (a b : Int) : spec_MulIn.f (k + 1) a b = some (mulR a b) := by
  unfold spec_MulIn.f mulR
  rw [amountOk_s, amountOk_s]
  simp only [Option.bind_some]
  cases ha : amt a with
  | false => simp [spec_MulIn.j0]
  | true =>
    cases hb : amt b with
    | false => simp [spec_MulIn.j0]
    | true =>
      have h1 := abs_range ha
      have h2 := abs_range hb
      have he := abs_mul a b
      have hq := amt_abs (a * b)
      rw [if_pos rfl]
      simp only [spec_MulIn.j0, Bool.not_true]
      rw [if_neg (by decide)]
      simp only [true_and]
      by_cases h0 : a = 0
      · subst h0
        rw [if_pos rfl, Int.zero_mul, if_pos (by decide), w64_id 0 (by decide) (by decide)]
      · have hpos : 0 < abs' a := by unfold abs' at *; split <;> omega
        rw [if_neg h0, abs_s hb, Option.bind_some, abs_s ha, Option.bind_some, if_neg (by omega)]
        have hd1 : 0 ≤ (1000000000000000 : Int) / abs' a := Int.ediv_nonneg (by decide) h1.1
        have hd2 : (1000000000000000 : Int) / abs' a ≤ 1000000000000000 := Int.ediv_le_self _ (by decide)
        rw [Int.tdiv_eq_ediv_of_nonneg (by decide), w64_id _ (by omega) (by omega)]
        have hm := mul_le_iff (abs' a) (abs' b) 1000000000000000 hpos
        rw [he] at hm
        by_cases hs : abs' (a * b) ≤ 1000000000000000
        · have hk := hq.mpr hs
          have := hm.mpr hs
          rw [if_neg (by omega), if_pos hk, mul_fits hk]
        · have hk : ¬ amt (a * b) = true := fun h => hs (hq.mp h)
          have : ¬ abs' b ≤ 1000000000000000 / abs' a := fun h => hs (hm.mp h)
          rw [if_pos (by omega), if_neg hk]
end Go.Proofs.Ytbgnbbbhjpngiaa.A1
