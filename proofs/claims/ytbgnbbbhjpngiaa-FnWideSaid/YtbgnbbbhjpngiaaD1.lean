/- The draws come to an end: the cursor, its bytes, numbers below a bound, picks and amounts; whatever bytes came in, up to the reach. -/
import Derived.Test.YtbgnbbbhjpngiaaPx0
import Derived.Test.YtbgnbbbhjpngiaaPx5
import Derived.Test.YtbgnbbbhjpngiaaPx6
import Derived.Test.YtbgnbbbhjpngiaaEV
namespace Go.Proofs.Ytbgnbbbhjpngiaa.D1
open Go Go.RowKit Go.Proofs.Ytbgnbbbhjpngiaa.P Go.Proofs.YtbgnbbbhjpngiaaW.PrintWords Go.Proofs.YtbgnbbbhjpngiaaW.PrintLast Go.Proofs.Ytbgnbbbhjpngiaa.EV

theorem and255 (y : Int) : 0 ≤ Go.bits .and .i64 y 255 ∧ Go.bits .and .i64 y 255 ≤ 255 := by
  have h : (BitVec.ofInt IntKind.i64.bits y &&& BitVec.ofInt IntKind.i64.bits 255).toNat ≤ 255 := by
    rw [BitVec.toNat_and]
    exact Nat.le_trans Nat.and_le_right (by decide)
  simp only [Go.bits]
  generalize (BitVec.ofInt IntKind.i64.bits y &&& BitVec.ofInt IntKind.i64.bits 255).toNat = m at *
  rw [IntKind.wrap_i64]
  omega

/-- A cursor that stands in its bytes. -/
def V (b : List Int) (i : Int) : Prop := 0 ≤ i ∧ i ≤ b.length ∧ b.length ≤ 140737488351232

theorem byte_ok (b : List Int) (i h : Int) (hv : V b i) : ∃ x i' h', spec_l1Byte.f b i h = some (x, i', h') ∧ 0 ≤ x ∧ x ≤ 255 ∧ V b i' := by
  obtain ⟨h0, h1, h2⟩ := hv
  unfold spec_l1Byte.f
  by_cases hi : i < (b.length : Int)
  · rw [if_pos hi, if_pos h0]
    refine ⟨_, _, _, rfl, (and255 _).1, (and255 _).2, ?_⟩
    rw [w64_in _ (by omega) (by omega)]
    exact ⟨by omega, by omega, h2⟩
  · rw [if_neg hi]
    exact ⟨_, _, _, rfl, (and255 _).1, (and255 _).2, h0, h1, h2⟩

theorem below_ok (b : List Int) (i h n : Int) (hv : V b i) (hn : n ≤ 4294967296) : ∃ x i' h', spec_l1Below.f b i h n = some (x, i', h') ∧ 0 ≤ x ∧ (0 < n → x < n) ∧ (n ≤ 0 → x = 0) ∧ V b i' := by
  unfold spec_l1Below.f
  by_cases h0 : n ≤ 0
  · rw [if_pos h0]
    exact ⟨_, _, _, rfl, by omega, fun h => by omega, fun _ => rfl, hv⟩
  · rw [if_neg h0]
    by_cases h1 : n ≤ 256
    · rw [if_pos h1]
      obtain ⟨x, i1, g1, e1, x0, x1, v1⟩ := byte_ok b i h hv
      rw [e1, Option.bind_some, if_neg (by omega)]
      refine ⟨_, _, _, rfl, ?_, fun _ => ?_, fun h => by omega, v1⟩
      · show 0 ≤ Int.tmod x n
        rw [Int.tmod_eq_emod_of_nonneg x0]
        exact Int.emod_nonneg _ (by omega)
      · show Int.tmod x n < n
        rw [Int.tmod_eq_emod_of_nonneg x0]
        exact Int.emod_lt_of_pos _ (by omega)
    · rw [if_neg h1]
      obtain ⟨x, i1, g1, e1, x0, x1, v1⟩ := byte_ok b i h hv
      rw [e1, Option.bind_some]
      obtain ⟨y, i2, g2, e2, y0, y1, v2⟩ := byte_ok b i1 g1 v1
      simp only [e2, Option.bind_some]
      obtain ⟨z, i3, g3, e3, z0, z1, v3⟩ := byte_ok b i2 g2 v2
      simp only [e3, Option.bind_some]
      obtain ⟨u, i4, g4, e4, u0, u1, v4⟩ := byte_ok b i3 g3 v3
      simp only [e4, Option.bind_some]
      rw [if_neg (by omega), w64_in (x * 16777216) (by omega) (by omega), w64_in (y * 65536) (by omega) (by omega), w64_in (z * 256) (by omega) (by omega),
        w64_in (x * 16777216 + y * 65536) (by omega) (by omega), w64_in (x * 16777216 + y * 65536 + z * 256) (by omega) (by omega), w64_in (x * 16777216 + y * 65536 + z * 256 + u) (by omega) (by omega)]
      refine ⟨_, _, _, rfl, ?_, fun _ => ?_, fun h => by omega, v4⟩
      · rw [Int.tmod_eq_emod_of_nonneg (by omega)]
        exact Int.emod_nonneg _ (by omega)
      · rw [Int.tmod_eq_emod_of_nonneg (by omega)]
        exact Int.emod_lt_of_pos _ (by omega)

theorem new_ok (l : List Int) (hl : l.length ≤ 140737488351232) : ∃ h, Ev (fun k => spec_l1New.f k l) (l, 0, h) := by
  have key : ∀ (d : Nat) (i : Nat) (h : Int), l.length - i = d → i ≤ l.length → ∃ h', Ev (fun k => spec_l1New.l0 k l h (i : Int)) (l, 0, h') := by
    intro d
    induction d with
    | zero =>
      intro i h hd hi
      exact ⟨h, Ev_one fun k => by simp only [spec_l1New.l0]; rw [if_neg (by omega)]⟩
    | succ d ih =>
      intro i h hd hi
      by_cases h4 : (i : Int) < 4000
      · obtain ⟨h', hr⟩ := ih (i + 1) (Go.bits .and .i64 (wrap64 ((wrap64 ((wrap64 (h * 131)) + (wrap64 (rd l (i : Int))))) + 7)) 1073741823) (by omega) (by omega)
        refine ⟨h', Ev.step (fun k => ?_) hr⟩
        simp only [spec_l1New.l0]
        rw [if_pos (by omega), if_pos h4, if_pos (by omega), w_succ (i := i) (n := l.length) (by omega) (by omega)]
      · exact ⟨h, Ev_one fun k => by simp only [spec_l1New.l0]; rw [if_pos (by omega), if_neg h4]⟩
  obtain ⟨h', hr⟩ := key l.length 0 (wrap64 (11029 + (l.length : Int))) (by omega) (by omega)
  exact ⟨h', Ev.congr (fun k => rfl) hr⟩

theorem once_ok (b : List Int) (i h n : Int) (hv : V b i) (hn : n ≤ 4294967296) : ∃ x i' h', spec_l1Once.f b i h n = some (x, i', h') ∧ V b i' := by
  unfold spec_l1Once.f
  obtain ⟨x, i1, g1, e1, _, _, _, v1⟩ := below_ok b i h n hv hn
  rw [e1]
  exact ⟨_, _, _, rfl, v1⟩

theorem pick_ok (b : List Int) (i h : Int) (l : List Int) (hv : V b i) (h0 : 0 < l.length) (hn : l.length ≤ 4294967296) : ∃ x i' h', spec_l1PickInt.f b i h l = some (x, i', h') ∧ x ∈ l ∧ V b i' := by
  unfold spec_l1PickInt.f
  obtain ⟨x, i1, g1, e1, x0, x1, _, v1⟩ := below_ok b i h l.length hv (by omega)
  have x2 := x1 (by omega)
  rw [e1, Option.bind_some, if_pos x0, if_pos x2]
  refine ⟨_, _, _, rfl, ?_, v1⟩
  show rd l x ∈ l
  unfold rd
  rw [List.getD_eq_getElem?_getD, List.getElem?_eq_getElem (by omega)]
  exact List.getElem_mem _

theorem drawAmount_ok (b : List Int) (i h : Int) (hv : V b i) : ∃ x i' h', spec_l1DrawAmount.f b i h = some (x, i', h') ∧ -9223372036854775808 ≤ x ∧ x ≤ 9223372036854775807 ∧ V b i' := by
  unfold spec_l1DrawAmount.f
  obtain ⟨x, i1, g1, e1, _, _, _, v1⟩ := below_ok b i h 8 hv (by decide)
  rw [e1, Option.bind_some]
  by_cases c0 : x = 0
  · simp only [if_pos c0]
    obtain ⟨y, i2, g2, e2, hy, v2⟩ := pick_ok b i1 g1 _ v1 (by decide : 0 < ([0, 1, (-1), 1000000000000000, (-1000000000000000), 1000000000000001, (-1000000000000001), 9223372036854775807, (-9223372036854775808)] : List Int).length) (by decide)
    rw [e2]
    refine ⟨_, _, _, rfl, ?_, ?_, v2⟩ <;> · simp only [List.mem_cons, List.mem_nil_iff, or_false] at hy; omega
  · simp only [if_neg c0]
    by_cases c1 : x = 1
    · simp only [if_pos c1]
      obtain ⟨y, i2, g2, e2, y0, y1, _, v2⟩ := below_ok b i1 g1 2000000000 v1 (by decide)
      have y2 := y1 (by decide)
      rw [e2]
      refine ⟨_, _, _, rfl, ?_, ?_, v2⟩ <;> · rw [w64_in _ (by omega) (by omega)]; omega
    · simp only [if_neg c1]
      by_cases c2 : x = 2
      · simp only [if_pos c2]
        obtain ⟨y, i2, g2, e2, y0, y1, _, v2⟩ := below_ok b i1 g1 5000 v1 (by decide)
        have y2 := y1 (by decide)
        rw [e2]
        refine ⟨_, _, _, rfl, ?_, ?_, v2⟩ <;> · rw [w64_in _ (by omega) (by omega)]; omega
      · simp only [if_neg c2]
        by_cases c3 : x = 3
        · simp only [if_pos c3]
          obtain ⟨y, i2, g2, e2, y0, y1, _, v2⟩ := below_ok b i1 g1 60000000 v1 (by decide)
          have y2 := y1 (by decide)
          rw [e2]
          exact ⟨_, _, _, rfl, by show _ ≤ y; omega, by show y ≤ _; omega, v2⟩
        · simp only [if_neg c3]
          obtain ⟨y, i2, g2, e2, y0, y1, _, v2⟩ := below_ok b i1 g1 1000 v1 (by decide)
          have y2 := y1 (by decide)
          rw [e2]
          exact ⟨_, _, _, rfl, by show _ ≤ y; omega, by show y ≤ _; omega, v2⟩

theorem drawTwo_ok (l : List Int) (hl : l.length ≤ 140737488351232) : ∃ x y, Ev (fun k => spec_l1DrawTwo.f k l) (x, y) ∧ (-9223372036854775808 ≤ x ∧ x ≤ 9223372036854775807) ∧ (-9223372036854775808 ≤ y ∧ y ≤ 9223372036854775807) := by
  obtain ⟨h, hn⟩ := new_ok l hl
  obtain ⟨x, i1, g1, e1, x0, x1, v1⟩ := drawAmount_ok l 0 h ⟨by omega, by omega, hl⟩
  obtain ⟨y, i2, g2, e2, y0, y1, v2⟩ := drawAmount_ok l i1 g1 v1
  refine ⟨x, y, ?_, ⟨x0, x1⟩, ⟨y0, y1⟩⟩
  unfold spec_l1DrawTwo.f
  refine Ev_bind hn ?_
  exact Ev_all_k fun k => by simp only [e1, Option.bind_some, e2]

end Go.Proofs.Ytbgnbbbhjpngiaa.D1
