/- FnWide answers true at every code; no condition but the reach of its bytes. -/
import Derived.Test.YtbgnbbbhjpngiaaPx0
import Derived.Test.YtbgnbbbhjpngiaaPx2
import Derived.Test.YtbgnbbbhjpngiaaPx5
import Derived.Test.YtbgnbbbhjpngiaaPx6
import Derived.Test.YtbgnbbbhjpngiaaEV
import Derived.Test.YtbgnbbbhjpngiaaL1
import Derived.Test.YtbgnbbbhjpngiaaI1
import Derived.Test.YtbgnbbbhjpngiaaA1
import Derived.Test.YtbgnbbbhjpngiaaA2
import Derived.Test.YtbgnbbbhjpngiaaD1
namespace Go.Proofs.Ytbgnbbbhjpngiaa.Pure
open Go Go.RowKit Go.Proofs.Ytbgnbbbhjpngiaa.P Go.Proofs.YtbgnbbbhjpngiaaW.PrintWords Go.Proofs.YtbgnbbbhjpngiaaW.PrintLast Go.Proofs.Ytbgnbbbhjpngiaa.EV Go.Proofs.Ytbgnbbbhjpngiaa.L1 Go.Proofs.Ytbgnbbbhjpngiaa.A1 Go.Proofs.Ytbgnbbbhjpngiaa.A2 Go.Proofs.Ytbgnbbbhjpngiaa.D1

theorem draw3 (l : List Int) (hl : l.length ≤ 140737488351232) : ∃ a b c, Ev (fun k => spec_DrawMulDiv.f k l) (a, b, c) := by
  obtain ⟨h, hn⟩ := new_ok l hl
  obtain ⟨x, i1, g1, e1, _, _, v1⟩ := drawAmount_ok l 0 h ⟨by omega, by omega, hl⟩
  obtain ⟨y, i2, g2, e2, _, _, v2⟩ := drawAmount_ok l i1 g1 v1
  obtain ⟨z, i3, g3, e3, _, _, v3⟩ := drawAmount_ok l i2 g2 v2
  obtain ⟨o, i4, g4, e4, v4⟩ := once_ok l i3 g3 5 v3 (by decide)
  have habs : ∀ u : Int, ∃ t, spec_l1Abs.f u = some t := by
    intro u
    unfold spec_l1Abs.f
    split <;> exact ⟨_, rfl⟩
  obtain ⟨p, ep⟩ := habs (Int.tmod x 1000000000000000)
  obtain ⟨q, eq⟩ := habs (Int.tmod y 1000000000000000)
  obtain ⟨r, er⟩ := habs (Int.tmod z 1000000000000000)
  unfold spec_DrawMulDiv.f
  cases o with
  | true => exact ⟨x, y, z, Ev_bind hn (Ev_all_k fun k => by simp only [e1, Option.bind_some, e2, e3, e4, if_true])⟩
  | false => exact ⟨p, q, r, Ev_bind hn (Ev_all_k fun k => by simp only [e1, Option.bind_some, e2, e3, e4, ep, eq, er]; rfl)⟩

theorem one_more (a b c : Int) (hc : 0 < c) : (a + 1) * b / c = a * b / c + b / c + (b % c + a * b % c) / c ∧ (a + 1) * b % c = (b % c + a * b % c) % c := by
  have e : (a + 1) * b = (b % c + a * b % c) + c * (a * b / c + b / c) := by
    have h1 : b = c * (b / c) + b % c := (Int.mul_ediv_add_emod b c).symm
    have h2 : a * b = c * (a * b / c) + a * b % c := (Int.mul_ediv_add_emod (a * b) c).symm
    rw [Int.add_mul, Int.one_mul, Int.mul_add]
    omega
  rw [e, Int.add_mul_ediv_left _ _ (by omega), Int.add_mul_emod_self_left]
  exact ⟨by omega, rfl⟩

theorem j2_ok (a b c : Int) (h : mdOk a b c) : Ev (fun k => laws_FnWide.j2 k a b c (a * b / c) (a * b % c) false) true := by
  obtain ⟨⟨a0, a1⟩, ⟨b0, b1⟩, ⟨c0, c1⟩, hq⟩ := h
  have w0 : wrap64 (a + 1) = a + 1 := w64_id _ (by omega) (by omega)
  have q0 : 0 ≤ a * b / c := Int.ediv_nonneg (Int.mul_nonneg a0 b0) (by omega)
  have r0 : 0 ≤ a * b % c := Int.emod_nonneg _ (by omega)
  have r1 : a * b % c < c := Int.emod_lt_of_pos _ (by omega)
  have s0 : 0 ≤ b % c := Int.emod_nonneg _ (by omega)
  have s1 : b % c < c := Int.emod_lt_of_pos _ (by omega)
  have t0 : 0 ≤ b / c := Int.ediv_nonneg b0 (by omega)
  have t1 : b / c ≤ b := Int.ediv_le_self _ b0
  have td : Int.tdiv b c = b / c := Int.tdiv_eq_ediv_of_nonneg b0
  have tm : Int.tmod b c = b % c := Int.tmod_eq_emod_of_nonneg b0
  have wz : wrap64 (b % c + a * b % c) = b % c + a * b % c := w64_id _ (by omega) (by omega)
  have u0 : 0 ≤ (b % c + a * b % c) / c := Int.ediv_nonneg (by omega) (by omega)
  have u1 : (b % c + a * b % c) / c ≤ b % c + a * b % c := Int.ediv_le_self _ (by omega)
  have zd : Int.tdiv (b % c + a * b % c) c = (b % c + a * b % c) / c := Int.tdiv_eq_ediv_of_nonneg (by omega)
  have zm : Int.tmod (b % c + a * b % c) c = (b % c + a * b % c) % c := Int.tmod_eq_emod_of_nonneg (by omega)
  obtain ⟨m1, m2⟩ := one_more a b c (by omega)
  refine Ev.step (fun k => by simp only [laws_FnWide.j2]; rw [if_neg (by decide), w0]) (Ev_bind (mulDiv_i (a + 1) b c) (Ev_all_k fun k => ?_))
  by_cases hn : mdOk (a + 1) b c
  · rw [md_yes hn, if_pos rfl]
    by_cases hmax : a = 1000000000000000
    · rw [if_pos hmax]
    · have e1 : wrap64 (b / c) = b / c := w64_id _ (by omega) (by omega)
      have e2 : wrap64 ((b % c + a * b % c) / c) = (b % c + a * b % c) / c := w64_id _ (by omega) (by omega)
      have e3 : wrap64 (a * b / c + b / c) = a * b / c + b / c := w64_id _ (by omega) (by omega)
      have e4 : wrap64 (a * b / c + b / c + (b % c + a * b % c) / c) = a * b / c + b / c + (b % c + a * b % c) / c := w64_id _ (by omega) (by omega)
      rw [if_neg hmax, if_neg (by omega), tm, td, wz, zd, zm, e1, e2, e3, e4, if_pos m1]
      show some ((a + 1) * b % c == (b % c + a * b % c) % c) = _
      rw [m2, beq_self_eq_true]
  · rw [md_no hn, if_neg (by decide)]

theorem j1_ok (a b c : Int) (h : mdOk a b c) : Ev (fun k => laws_FnWide.j1 k a b c (a * b / c) (a * b % c) false) true := by
  have h2 := j2_ok a b c h
  obtain ⟨⟨a0, a1⟩, ⟨b0, b1⟩, ⟨c0, c1⟩, hq⟩ := h
  have q0 : 0 ≤ a * b / c := Int.ediv_nonneg (Int.mul_nonneg a0 b0) (by omega)
  refine Ev.step (fun k => by simp only [laws_FnWide.j1]; rw [if_neg (by decide)]) (Ev_bind (Ev_one fun k => mulIn_i k a b) ?_)
  by_cases hf : amt a = true ∧ amt b = true ∧ amt (a * b) = true
  · have hm : mulR a b = (a * b, true) := by unfold mulR; rw [if_pos hf]
    have hp : 0 ≤ a * b := Int.mul_nonneg a0 b0
    rw [hm]
    refine Ev.congr (fun k => ?_) h2
    show (if true = true then _ else _) = _
    rw [if_pos rfl, if_neg (by omega), Int.tdiv_eq_ediv_of_nonneg hp, Int.tmod_eq_emod_of_nonneg hp, w64_id (a * b / c) (by omega) (by omega), if_pos rfl]
    congr 1
    simp
  · have hm : mulR a b = (0, false) := by unfold mulR; rw [if_neg hf]
    rw [hm]
    exact Ev.congr (fun k => if_neg (by decide)) h2

theorem j0_ok (a b c : Int) : Ev (fun k => laws_FnWide.j0 k a b c (mdR a b c).1 (mdR a b c).2.1 (mdR a b c).2.2 false) true := by
  by_cases h : mdOk a b c
  · rw [md_yes h]
    have h1 := j1_ok a b c h
    obtain ⟨⟨a0, a1⟩, ⟨b0, b1⟩, ⟨c0, c1⟩, hq⟩ := h
    have r0 : 0 ≤ a * b % c := Int.emod_nonneg _ (by omega)
    have r1 : a * b % c < c := Int.emod_lt_of_pos _ (by omega)
    refine Ev.step (fun k => ?_) h1
    simp only [laws_FnWide.j0]
    rw [if_neg (by decide), if_pos trivial, if_neg (by omega), decide_eq_false (by omega : ¬ a * b % c ≥ c)]
  · rw [md_no h]
    exact Ev_one fun k => by
      simp only [laws_FnWide.j0]
      rw [if_neg (by decide), if_neg (by decide), if_pos trivial]
      rfl

theorem FnWide : laws_FnWide.Pure := by
  intro l hm hl _
  refine Ev.rounds ?_
  unfold laws_FnWide.f laws_big.f
  simp only [Option.bind_some]
  by_cases hb : (l.length : Int) > 1048576
  · exact Ev_all_k fun k => by rw [if_pos (decide_eq_true hb)]
  · refine Ev.congr (fun k => by rw [if_neg (by rw [decide_eq_false hb]; decide)]) ?_
    obtain ⟨a, b, c, hd⟩ := draw3 l (by omega)
    refine Ev_bind hd (Ev_bind (mulDiv_i a b c) (Ev_bind (mulDiv_s a b c) ?_))
    refine Ev.congr (fun k => ?_) (j0_ok a b c)
    rw [if_neg (by simp), if_pos rfl]
    congr 1
    simp
end Go.Proofs.Ytbgnbbbhjpngiaa.Pure
