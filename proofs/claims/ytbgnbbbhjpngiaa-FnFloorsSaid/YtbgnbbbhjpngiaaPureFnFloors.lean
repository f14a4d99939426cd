/- FnFloors answers true at every code; no condition but the reach of its bytes. -/
import Derived.Test.YtbgnbbbhjpngiaaPx0
import Derived.Test.YtbgnbbbhjpngiaaPx1
import Derived.Test.YtbgnbbbhjpngiaaPx2
import Derived.Test.YtbgnbbbhjpngiaaPx5
import Derived.Test.YtbgnbbbhjpngiaaPx6
import Derived.Test.YtbgnbbbhjpngiaaPx7
import Derived.Test.YtbgnbbbhjpngiaaEV
import Derived.Test.YtbgnbbbhjpngiaaL1
import Derived.Test.YtbgnbbbhjpngiaaA1
import Derived.Test.YtbgnbbbhjpngiaaA3
import Derived.Test.YtbgnbbbhjpngiaaD1
namespace Go.Proofs.Ytbgnbbbhjpngiaa.Pure
open Go Go.RowKit Go.Proofs.Ytbgnbbbhjpngiaa.P Go.Proofs.YtbgnbbbhjpngiaaW.PrintWords Go.Proofs.YtbgnbbbhjpngiaaW.PrintLast Go.Proofs.Ytbgnbbbhjpngiaa.EV Go.Proofs.Ytbgnbbbhjpngiaa.L1 Go.Proofs.Ytbgnbbbhjpngiaa.A1 Go.Proofs.Ytbgnbbbhjpngiaa.A3 Go.Proofs.Ytbgnbbbhjpngiaa.D1

theorem ne_sign (a b : Int) : ((decide (a < 0) != decide (b < 0)) = true) ↔ ((a < 0 ∧ ¬ b < 0) ∨ (¬ a < 0 ∧ b < 0)) := by
  by_cases p : a < 0 <;> by_cases q : b < 0 <;> simp [p, q]
theorem floor_left (a b : Int) (ha : amt a = true) (hb : amt b = true) (h0 : b ≠ 0) :
    ∃ r, wrap64 (a - wrap64 (floorR a b * b)) = r ∧ (0 < b → 0 ≤ r ∧ r < b) ∧ (b < 0 → b < r ∧ r ≤ 0) := by
  obtain ⟨e, m1, m2, m3, m4, t1, t2⟩ := tq a b h0
  rw [amt_iff] at ha hb
  refine ⟨_, rfl, ?_⟩
  unfold floorR
  generalize Int.tmod a b = m at *
  generalize Int.tdiv a b = t at *
  have w1 : wrap64 t = t := w64_id _ (by omega) (by omega)
  have w2 : wrap64 (t - 1) = t - 1 := w64_id _ (by omega) (by omega)
  rw [w1, w2]
  have e2 : (t - 1) * b = t * b - b := by rw [Int.sub_mul, Int.one_mul]
  split
  · generalize t * b = p at *
    rw [w64_id p (by omega) (by omega), w64_id _ (by omega) (by omega)]
    omega
  · split
    · rename_i h1 h2
      rw [e2]
      have hs := (ne_sign a b).1 h2
      generalize t * b = p at *
      rw [w64_id (p - b) (by omega) (by omega), w64_id _ (by omega) (by omega)]
      omega
    · rename_i h1 h2
      have hs : ¬ ((a < 0 ∧ ¬ b < 0) ∨ (¬ a < 0 ∧ b < 0)) := fun h => h2 ((ne_sign a b).2 h)
      generalize t * b = p at *
      rw [w64_id p (by omega) (by omega), w64_id _ (by omega) (by omega)]
      omega

theorem mulI (a b : Int) : Ev (fun k => impl_MulIn.f k a b) (mulR a b) := Ev_one fun k => mulIn_i k a b
theorem mulS (a b : Int) : Ev (fun k => spec_MulIn.f k a b) (mulR a b) := Ev_one fun k => mulIn_s k a b
theorem divI (a b : Int) : Ev (fun k => impl_DivFloor.f k a b) (divR a b) := Ev_one fun k => divFloor_i k a b
theorem divS (a b : Int) : Ev (fun k => spec_DivFloor.f k a b) (divR a b) := Ev_one fun k => divFloor_s k a b

theorem tail_ok (a b : Int) : (if (mulR a b).2 = true then (if a = 0 then (if (mulR a b).1 = 0 then (some true) else (some false)) else (if (wrap64 (Int.tdiv (mulR a b).1 a)) = b then (some ((Int.tmod (mulR a b).1 a) == 0)) else (some false))) else (some true)) = some true := by
  by_cases hf : amt a = true ∧ amt b = true ∧ amt (a * b) = true
  · have hm : mulR a b = (a * b, true) := by unfold mulR; rw [if_pos hf]
    rw [hm, if_pos rfl]
    by_cases h0 : a = 0
    · rw [if_pos h0, if_pos (by rw [h0]; exact Int.zero_mul b)]
    · rw [if_neg h0]
      have hb := hf.2.1
      rw [amt_iff] at hb
      have e1 : Int.tdiv (a * b, true).1 a = b := Int.mul_tdiv_cancel_left b h0
      have e2 : Int.tmod (a * b, true).1 a = 0 := Int.mul_tmod_right a b
      rw [e1, e2, w64_id b (by omega) (by omega), if_pos rfl]
      rfl
  · have hm : mulR a b = (0, false) := by unfold mulR; rw [if_neg hf]
    rw [hm, if_neg (by decide)]

theorem j3_ok (a b : Int) : Ev (fun k => laws_FnFloors.j3 k a b false) true := by
  refine Ev.step (fun k => by simp only [laws_FnFloors.j3]; rw [if_neg (by decide)]) (Ev_bind (mulI a b) (Ev_bind (mulS a b) ?_))
  exact Ev_all_k fun k => by rw [if_pos (by simp)]; exact tail_ok a b

theorem j2_ok (a b : Int) : Ev (fun k => laws_FnFloors.j2 k a b (subR a b).1 (subR a b).2) true := by
  by_cases hf : amt a = true ∧ amt b = true ∧ amt (a - b) = true
  · have hm : subR a b = (a - b, true) := by unfold subR; rw [if_pos hf]
    rw [hm]
    refine Ev.step (fun k => ?_) (j3_ok a b)
    simp only [laws_FnFloors.j2]
    have hs : addR (a - b) b = (a, true) := by
      unfold addR
      rw [Int.sub_add_cancel, if_pos ⟨hf.2.2, hf.2.1, hf.1⟩]
    rw [addIn_i, hs]
    simp
  · have hm : subR a b = (0, false) := by unfold subR; rw [if_neg hf]
    rw [hm]
    refine Ev.step (fun k => by simp only [laws_FnFloors.j2]; rw [if_neg (by decide)]) (Ev_bind (mulI a b) (Ev_bind (mulS a b) ?_))
    exact Ev_all_k fun k => by rw [if_pos (by simp)]; exact tail_ok a b

theorem j1_ok (a b : Int) : Ev (fun k => laws_FnFloors.j1 k a b (addR a b).1 (addR a b).2 (subR a b).1 (subR a b).2) true := by
  refine Ev.step (fun k => ?_) (j2_ok a b)
  simp only [laws_FnFloors.j1]
  by_cases hf : amt a = true ∧ amt b = true ∧ amt (a + b) = true
  · have hm : addR a b = (a + b, true) := by unfold addR; rw [if_pos hf]
    have hs : subR (a + b) b = (a, true) := by
      unfold subR
      rw [Int.add_sub_cancel, if_pos ⟨hf.2.2, hf.2.1, hf.1⟩]
    rw [hm, subIn_i, hs, amountOk_i]
    simp [hf.2.2]
  · have hm : addR a b = (0, false) := by unfold addR; rw [if_neg hf]
    rw [hm]
    simp

theorem j0_ok (a b : Int) : Ev (fun k => laws_FnFloors.j0 k a b (divR a b).1 (divR a b).2 (addR a b).1 (addR a b).2 (subR a b).1 (subR a b).2 false) true := by
  refine Ev.step (fun k => ?_) (j1_ok a b)
  simp only [laws_FnFloors.j0]
  rw [if_neg (by decide)]
  by_cases hf : amt a = true ∧ amt b = true ∧ b ≠ 0
  · have hm : divR a b = (floorR a b, true) := by unfold divR; rw [if_pos hf]
    obtain ⟨r, hr, h1, h2⟩ := floor_left a b hf.1 hf.2.1 hf.2.2
    rw [hm, hr, if_pos rfl]
    by_cases hb : b > 0
    · have := h1 hb
      rw [if_pos hb, if_neg (by omega), if_neg (by omega), if_neg (by omega)]
    · have := h2 (by omega)
      rw [if_neg hb, if_pos (by omega), if_neg (by omega), if_neg (by omega)]
  · have hm : divR a b = (0, false) := by unfold divR; rw [if_neg hf]
    rw [hm, if_neg (by decide)]

theorem FnFloors : laws_FnFloors.Pure := by
  intro l hm hl _
  refine Ev.rounds ?_
  unfold laws_FnFloors.f laws_big.f
  simp only [Option.bind_some]
  by_cases hb : (l.length : Int) > 1048576
  · exact Ev_all_k fun k => by rw [if_pos (decide_eq_true hb)]
  · refine Ev.congr (fun k => by rw [if_neg (by rw [decide_eq_false hb]; decide)]) ?_
    obtain ⟨a, b, hd, _, _⟩ := drawTwo_ok l (by omega)
    have hd' : Ev (fun k => spec_DrawDivFloor.f k l) (a, b) := by
      unfold spec_DrawDivFloor.f
      exact Ev_bind hd (Ev.now _)
    refine Ev_bind hd' (Ev_bind (divI a b) (Ev_bind (divS a b) ?_))
    refine Ev.congr (fun k => by rw [addIn_i, Option.bind_some, addIn_s, Option.bind_some, subIn_i, Option.bind_some, subIn_s, Option.bind_some, if_neg (by simp), if_neg (by simp)]) ?_
    refine Ev.congr (fun k => ?_) (j0_ok a b)
    congr 1
    simp
end Go.Proofs.Ytbgnbbbhjpngiaa.Pure
