/- Drawn legs that are posted turn each balance by just what they give it, and leave of each instrument all balances together as they were; no condition. -/
import Derived.Test.YtpcjpjjkaplebaaZFnPost5
import Derived.SizedLaws
import Derived.ChangeSlices
import Derived.Test.YtpcjpjjkaplebaaRows
import Derived.WalkKit
import Derived.ProofKit
import Derived.OpenShut
import Derived.ShutString
import Derived.ChangeOld
import Derived.Below
namespace Go.Proofs.Ytpcjpjjkaplebaa.P
end Go.Proofs.Ytpcjpjjkaplebaa.P
namespace Go.Proofs.Ytpcjpjjkaplebaa.EV
end Go.Proofs.Ytpcjpjjkaplebaa.EV
namespace Go.Proofs.Ytpcjpjjkaplebaa.D1
end Go.Proofs.Ytpcjpjjkaplebaa.D1
namespace Go.Proofs.Ytpcjpjjkaplebaa.I1
end Go.Proofs.Ytpcjpjjkaplebaa.I1
namespace Go.Proofs.Ytpcjpjjkaplebaa.N1
end Go.Proofs.Ytpcjpjjkaplebaa.N1
namespace Go.Proofs.Ytpcjpjjkaplebaa.B2
end Go.Proofs.Ytpcjpjjkaplebaa.B2
namespace Go.Proofs.Ytpcjpjjkaplebaa.G1
end Go.Proofs.Ytpcjpjjkaplebaa.G1
namespace Go.Proofs.Ytpcjpjjkaplebaa.D3
end Go.Proofs.Ytpcjpjjkaplebaa.D3
namespace Go.Proofs.Ytpcjpjjkaplebaa.B1
end Go.Proofs.Ytpcjpjjkaplebaa.B1
namespace Go.Proofs.Ytpcjpjjkaplebaa.B3
end Go.Proofs.Ytpcjpjjkaplebaa.B3
namespace Go.Proofs.Ytpcjpjjkaplebaa.B4
end Go.Proofs.Ytpcjpjjkaplebaa.B4
namespace Go.Proofs.Ytpcjpjjkaplebaa.B5
end Go.Proofs.Ytpcjpjjkaplebaa.B5
namespace Go.Proofs.Ytpcjpjjkaplebaa.B6
end Go.Proofs.Ytpcjpjjkaplebaa.B6
namespace Go.Proofs.Ytpcjpjjkaplebaa.D4
end Go.Proofs.Ytpcjpjjkaplebaa.D4
namespace Go.Proofs.Ytpcjpjjkaplebaa.D4
open Go Go.RowKit Go.Proofs.Ytpcjpjjkaplebaa.P Go.Proofs.YtpcjpjjkaplebaaW.PrintWords Go.Proofs.YtpcjpjjkaplebaaW.PrintLast Go.Proofs.Ytpcjpjjkaplebaa.EV Go.Proofs.Ytpcjpjjkaplebaa.D1 Go.Proofs.Ytpcjpjjkaplebaa.I1 Go.Proofs.Ytpcjpjjkaplebaa.N1 Go.Proofs.Ytpcjpjjkaplebaa.B2 Go.Proofs.Ytpcjpjjkaplebaa.G1 Go.Proofs.Ytpcjpjjkaplebaa.D3
theorem drawLegs_e (b : List Int) (n : Int) (i : Int) (l : List SL) (c h : Int) (hin : ¬ i < n) (hl : l.length ≤ 1000000) (hv : V b c) : ∃ r c' h', (∀ k, spec_l4DrawLegs.l0 (k + 1) l n i b c h = some (r, c', h')) ∧ r.length ≤ 1000001 ∧ V b c' := by
  obtain ⟨x, i1, g1, e1, _, _, _, v1⟩ := below_ok b c h 15 hv (by decide)
  by_cases h0 : x = 0
  · obtain ⟨y, i2, g2, e2, v2⟩ := drawNo_ok b i1 g1 v1
    obtain ⟨z, i3, g3, e3, v3⟩ := drawNo_ok b i2 g2 v2
    obtain ⟨u, i4, g4, e4, _, _, _, v4⟩ := below_ok b i3 g3 2 v3 (by decide)
    refine ⟨l ++ [⟨y, z, u⟩], i4, g4, fun k => ?_, by simp; omega, v4⟩
    simp only [spec_l4DrawLegs.l0]
    rw [if_neg hin, e1, Option.bind_some, if_pos h0]
    simp only [e2, e3, e4, Option.bind_some]
    rw [if_pos (by omega)]
  · by_cases h1 : x = 1
    · by_cases h2 : (l.length : Int) > 0
      · obtain ⟨y, i2, g2, e2, _, _, v2⟩ := drawAmount_ok b i1 g1 v1
        refine ⟨l.set (0 : Int).toNat (⟨(rd_T61 l 0).f0, (rd_T61 l 0).f1, y⟩ : SL), i2, g2, fun k => ?_, by rw [List.length_set]; omega, v2⟩
        simp only [spec_l4DrawLegs.l0]
        rw [if_neg hin, e1, Option.bind_some, if_neg h0, if_pos h1, if_pos h2, e2, Option.bind_some, if_pos (by omega)]
      · refine ⟨l, i1, g1, fun k => ?_, by omega, v1⟩
        simp only [spec_l4DrawLegs.l0]
        rw [if_neg hin, e1, Option.bind_some, if_neg h0, if_pos h1, if_neg h2]
    · refine ⟨l, i1, g1, fun k => ?_, by omega, v1⟩
      simp only [spec_l4DrawLegs.l0]
      rw [if_neg hin, e1, Option.bind_some, if_neg h0, if_neg h1]
theorem drawLegs_l (b : List Int) (n : Int) (hn : n ≤ 1000) : ∀ (d : Nat) (i : Int) (l : List SL) (c h : Int), (n - i).toNat = d → 0 ≤ i → (l.length : Int) ≤ 2 * i → i ≤ n ∨ i = 0 → V b c → ∃ r c' h', Ev (fun k => spec_l4DrawLegs.l0 k l n i b c h) (r, c', h') ∧ r.length ≤ 1000001 ∧ V b c' := by
  intro d
  induction d with
  | zero =>
    intro i l c h hd hi hl hin hv
    obtain ⟨r, c', h', hr, h2, h3⟩ := drawLegs_e b n i l c h (by omega) (by omega) hv
    exact ⟨r, c', h', Ev_one hr, h2, h3⟩
  | succ d ih =>
    intro i l c h hd hi hl hin hv
    have hw2 : wrap64 (i + 1) = i + 1 := w64_in _ (by omega) (by omega)
    obtain ⟨x, i1, g1, e1, _, _, _, v1⟩ := below_ok b c h 50 hv (by decide)
    obtain ⟨y, i2, g2, e2, v2⟩ := once_ok b i1 g1 12 v1 (by decide)
    have ll : ∀ a b' : SL, l.length + ([a, b'] : List SL).length < 5864062014805 := fun _ _ => by
      show l.length + 2 < _
      omega
    have l2 : ∀ a b' : SL, ((l ++ [a, b']).length : Int) ≤ 2 * (i + 1) := fun _ _ => by
      rw [List.length_append]
      show ((l.length + 2 : Nat) : Int) ≤ _
      omega
    cases y with
    | true =>
      obtain ⟨u, i3, g3, e3, _, v3⟩ := pick_ok b i2 g2 [1000000000000000, (-1000000000000000), 999999999999997] v2 (by decide) (by decide)
      obtain ⟨p, i4, g4, e4, _, _, _, v4⟩ := below_ok b i3 g3 3 v3 (by decide)
      obtain ⟨q, i5, g5, e5, _, _, _, v5⟩ := below_ok b i4 g4 5 v4 (by decide)
      obtain ⟨s, i6, g6, e6, _, _, _, v6⟩ := below_ok b i5 g5 5 v5 (by decide)
      obtain ⟨r, c', h', hr, hr2, hv2⟩ := ih (i + 1) (l ++ [⟨wrap64 (1 + q), wrap64 (1 + p), wrap64 (-u)⟩, ⟨wrap64 (1 + s), wrap64 (1 + p), u⟩]) i6 g6 (by omega) (by omega) (l2 _ _) (by omega) v6
      refine ⟨r, c', h', Ev.step (fun k => ?_) hr, hr2, hv2⟩
      simp only [spec_l4DrawLegs.l0]
      rw [if_pos (by omega), e1, Option.bind_some]
      simp only [e2, Option.bind_some]
      rw [if_pos trivial]
      simp only [e3, e4, e5, e6, Option.bind_some]
      rw [if_pos (ll _ _), hw2]
    | false =>
      obtain ⟨p, i4, g4, e4, _, _, _, v4⟩ := below_ok b i2 g2 3 v2 (by decide)
      obtain ⟨q, i5, g5, e5, _, _, _, v5⟩ := below_ok b i4 g4 5 v4 (by decide)
      obtain ⟨s, i6, g6, e6, _, _, _, v6⟩ := below_ok b i5 g5 5 v5 (by decide)
      obtain ⟨r, c', h', hr, hr2, hv2⟩ := ih (i + 1) (l ++ [⟨wrap64 (1 + q), wrap64 (1 + p), wrap64 (-x)⟩, ⟨wrap64 (1 + s), wrap64 (1 + p), x⟩]) i6 g6 (by omega) (by omega) (l2 _ _) (by omega) v6
      refine ⟨r, c', h', Ev.step (fun k => ?_) hr, hr2, hv2⟩
      simp only [spec_l4DrawLegs.l0]
      rw [if_pos (by omega), e1, Option.bind_some]
      simp only [e2, Option.bind_some]
      rw [if_neg (by decide)]
      simp only [e4, e5, e6, Option.bind_some]
      rw [if_pos (ll _ _), hw2]
theorem drawLegs_ok (b : List Int) (i h : Int) (hv : V b i) : ∃ r c' h', Ev (fun k => spec_l4DrawLegs.f k b i h) (r, c', h') ∧ r.length ≤ 1000001 ∧ V b c' := by
  unfold spec_l4DrawLegs.f
  obtain ⟨x, i1, g1, e1, x0, x1, _, v1⟩ := below_ok b i h 4 hv (by decide)
  have x2 := x1 (by decide)
  obtain ⟨y, i2, g2, e2, v2⟩ := once_ok b i1 g1 25 v1 (by decide)
  cases y with
  | true =>
    obtain ⟨z, i3, g3, e3, z0, z1, _, v3⟩ := below_ok b i2 g2 2 v2 (by decide)
    have z2 := z1 (by decide)
    have hw : wrap64 (80 + z) = 80 + z := w64_in _ (by omega) (by omega)
    obtain ⟨r, c', h', hr, hr2, hv2⟩ := drawLegs_l b (80 + z) (by omega) _ 0 [] i3 g3 rfl (by decide) (by decide) (.inr rfl) v3
    refine ⟨r, c', h', ?_, hr2, hv2⟩
    refine Ev.congr (fun k => ?_) (Ev.step (g := fun k => spec_l4DrawLegs.j0 k [] (80 + z) b i3 g3) (fun k => by simp only [spec_l4DrawLegs.j0]) hr)
    rw [Option.bind_some, e1, Option.bind_some]
    simp only [e2, Option.bind_some]
    rw [if_pos trivial]
    simp only [e3, Option.bind_some]
    rw [hw]
  | false =>
    obtain ⟨r, c', h', hr, hr2, hv2⟩ := drawLegs_l b x (by omega) _ 0 [] i2 g2 rfl (by decide) (by decide) (.inr rfl) v2
    refine ⟨r, c', h', ?_, hr2, hv2⟩
    refine Ev.congr (fun k => ?_) (Ev.step (g := fun k => spec_l4DrawLegs.j0 k [] x b i2 g2) (fun k => by simp only [spec_l4DrawLegs.j0]) hr)
    rw [Option.bind_some, e1, Option.bind_some]
    simp only [e2, Option.bind_some]
    rw [if_neg (by decide)]
theorem drawPost_l (b : List Int) (l : List SB) (g : List SL) : ∀ (d : Nat) (i : Int) (s : List Int) (c h : Int), (6 - i).toNat = d → 0 ≤ i → (s.length : Int) ≤ i → i ≤ 6 → V b c → ∃ r, Ev (fun k => spec_DrawBalsPost.l0 k l g s i b c h) (l, g, r) ∧ r.length ≤ 30 := by
  intro d
  induction d with
  | zero =>
    intro i s c h hd hi hs hi6 hv
    obtain ⟨x, i1, g1, e1, v1⟩ := once_ok b c h 25 hv (by decide)
    cases x with
    | true =>
      obtain ⟨z, i3, g3, e3, z0, z1, _, v3⟩ := below_ok b i1 g1 2 v1 (by decide)
      have z2 := z1 (by decide)
      have hw : wrap64 (20 + z) = 20 + z := w64_in _ (by omega) (by omega)
      refine ⟨List.replicate (20 + z).toNat 0, Ev_one fun k => ?_, by rw [List.length_replicate]; omega⟩
      simp only [spec_DrawBalsPost.l0]
      rw [if_neg (by omega), e1, Option.bind_some, if_pos rfl]
      simp only [e3, Option.bind_some, hw]
      rw [if_pos (by omega), if_pos (by omega)]
    | false =>
      refine ⟨s, Ev_one fun k => ?_, by omega⟩
      simp only [spec_DrawBalsPost.l0]
      rw [if_neg (by omega), e1, Option.bind_some]
      rfl
  | succ d ih =>
    intro i s c h hd hi hs hi6 hv
    have hw2 : wrap64 (i + 1) = i + 1 := w64_in _ (by omega) (by omega)
    obtain ⟨x, i1, g1, e1, v1⟩ := once_ok b c h 2 hv (by decide)
    cases x with
    | true =>
      obtain ⟨r, hr, hr2⟩ := ih (i + 1) (s ++ [i]) i1 g1 (by omega) (by omega) (by rw [List.length_append]; simp; omega) (by omega) v1
      refine ⟨r, Ev.step (fun k => ?_) hr, hr2⟩
      simp only [spec_DrawBalsPost.l0]
      rw [if_pos (by omega), e1, Option.bind_some, if_pos rfl, if_pos (by omega), hw2]
    | false =>
      obtain ⟨r, hr, hr2⟩ := ih (i + 1) s i1 g1 (by omega) (by omega) (by omega) (by omega) v1
      refine ⟨r, Ev.step (fun k => ?_) hr, hr2⟩
      simp only [spec_DrawBalsPost.l0]
      rw [if_pos (by omega), e1, Option.bind_some, hw2]
      rfl
theorem drawBalsPost_ok (l : List Int) (hl : l.length ≤ 140737488351232) : ∃ r g s, Ev (fun k => spec_DrawBalsPost.f k l) (r, g, s) ∧ r.length ≤ 161 ∧ g.length ≤ 1000001 ∧ s.length ≤ 30 := by
  unfold spec_DrawBalsPost.f
  obtain ⟨h, hn⟩ := new_ok l hl
  obtain ⟨r, c1, h1, hr, hr2, v1⟩ := drawBals_ok l 0 h ⟨by omega, by omega, hl⟩
  obtain ⟨g, c2, h2, hg, hg2, v2⟩ := drawLegs_ok l c1 h1 v1
  obtain ⟨s, hs, hs2⟩ := drawPost_l l r g _ 1 [] c2 h2 rfl (by decide) (by decide) (by decide) v2
  exact ⟨r, g, s, Ev_bind hn (Ev_bind hr (Ev_bind hg hs)), hr2, hg2, hs2⟩
theorem same_self (l : List SB) (hl : l.length ≤ 9223372036854775807) : Ev (fun k => laws_sameBals.f k l l) true := by
  unfold laws_sameBals.f
  have h := Ev_goes (fun k (_ : Unit) i => laws_sameBals.l0 k l l i) l.length (fun _ _ => true) (fun _ _ => True)
    (fun _ _ => Ev_one fun k => by simp only [laws_sameBals.l0]; rw [if_neg (by omega)])
    (fun i _ hi _ => .inr ⟨(), trivial, rfl, fun k => by
      show laws_sameBals.l0 (k + 1) l l (i : Int) = _
      simp only [laws_sameBals.l0]
      rw [if_pos (by omega), if_pos (by omega), if_pos (by omega), if_neg (by simp), w_succ hi (by omega)]⟩) l.length 0 () (by omega) (by omega) trivial
  exact Ev.congr (fun k => if_pos rfl) h
end Go.Proofs.Ytpcjpjjkaplebaa.D4
namespace Go.Proofs.Ytpcjpjjkaplebaa.Pure
open Go Go.RowKit Go.Proofs.Ytpcjpjjkaplebaa.P Go.Proofs.YtpcjpjjkaplebaaW.PrintWords Go.Proofs.YtpcjpjjkaplebaaW.PrintLast Go.Proofs.Ytpcjpjjkaplebaa.EV Go.Proofs.Ytpcjpjjkaplebaa.D1 Go.Proofs.Ytpcjpjjkaplebaa.I1 Go.Proofs.Ytpcjpjjkaplebaa.N1 Go.Proofs.Ytpcjpjjkaplebaa.B1 Go.Proofs.Ytpcjpjjkaplebaa.B2 Go.Proofs.Ytpcjpjjkaplebaa.B3 Go.Proofs.Ytpcjpjjkaplebaa.B4 Go.Proofs.Ytpcjpjjkaplebaa.G1 Go.Proofs.Ytpcjpjjkaplebaa.B5 Go.Proofs.Ytpcjpjjkaplebaa.B6 Go.Proofs.Ytpcjpjjkaplebaa.D3 Go.Proofs.Ytpcjpjjkaplebaa.D4
theorem within_w (l : List Int) (x : Int) (hm : l.length ≤ 9223372036854775807) : Ev (fun k => laws_within.f k l x) (hasI l x) := by
  unfold laws_within.f
  have h := Ev_goes (fun k (_ : Unit) i => laws_within.l0 k l x i) l.length (fun i _ => hasI (l.drop i) x) (fun _ _ => True)
    (fun _ _ => Ev_one fun k => by
      simp only [laws_within.l0]
      rw [if_neg (by omega), List.drop_length]
      rfl)
    (fun i _ hi _ => by
      by_cases h : l.getD i 0 = x
      · refine .inl (Ev_one fun k => ?_)
        simp only [laws_within.l0, rdi]
        rw [if_pos (by omega), if_pos (by omega), if_pos h, hasI_drop l x i hi, beq_iff_eq.2 h]
        rfl
      · refine .inr ⟨(), trivial, by show hasI (l.drop (i + 1)) x = hasI (l.drop i) x; rw [hasI_drop l x i hi, beq_eq_false_iff_ne.2 h]; rfl, fun k => ?_⟩
        show laws_within.l0 (k + 1) l x (i : Int) = _
        simp only [laws_within.l0, rdi]
        rw [if_pos (by omega), if_pos (by omega), if_neg h, w_succ hi (by omega)]) l.length 0 () (by omega) (by omega) trivial
  rw [List.drop_zero] at h
  exact h
theorem legSum_drop (a b : Int) (l : List SL) (i : Nat) (hi : i < l.length) : legSum a b (l.drop i) = (if (l.getD i z61).f0 = a ∧ (l.getD i z61).f1 = b then (l.getD i z61).f2 else 0) + legSum a b (l.drop (i + 1)) := by
  rw [drop_getD z61 l i hi]; rfl
theorem legSum_bound {l : List SL} (h : RightL l) (a b : Int) : ∀ (d i : Nat), l.length - i = d → i ≤ l.length → -(1000000000000000 * (l.length - i : Int)) ≤ legSum a b (l.drop i) ∧ legSum a b (l.drop i) ≤ 1000000000000000 * (l.length - i : Int) := by
  intro d
  induction d with
  | zero =>
    intro i hd hi
    obtain rfl : i = l.length := by omega
    rw [List.drop_length]
    unfold legSum
    omega
  | succ d ih =>
    intro i hd hi
    rw [legSum_drop a b l i (by omega)]
    have := ih (i + 1) (by omega) (by omega)
    have g : Amt _ := (h.at i (by omega)).2.2
    unfold Amt at g
    split <;> omega
theorem post_loop {l o : List SB} {g : List SL} {s : List Int} (h1 : okB l = true) (h2 : okL g = true) (h3 : s.length ≤ 20) (h4 : goP l g = some o) (h5 : o.length ≤ 160) (h6 : g.any (shortB o s) = false) : Ev (fun k => laws_FnPost.l0 k l g s o 0) true := by
  have hL := (okL_iff g).1 h2
  have hg := hL.1.1
  have hB := (okB_sort l).1 ((okB_iff l).1 h1)
  have ho := goP_sort hB.2 hL.1.2 h4
  have hoB : OkB o := (okB_sort o).2 ⟨h5, ho.1⟩
  have ho1 := (okB_iff o).2 hoB
  refine Ev_goes' (fun k (_ : Unit) i => laws_FnPost.l0 k l g s o i) g.length (fun _ _ => true) (fun _ _ => True) (fun _ _ => ?_) (fun i _ hi _ => .inr ⟨(), trivial, rfl, fun r hr => ?_⟩) g.length 0 () (by omega) (by omega) trivial
  · refine Ev.step (fun k => by simp only [laws_FnPost.l0]; rw [if_neg (by omega)]) ?_
    refine Ev_bind (balsOk_i o (by omega)) ?_
    rw [ho1]
    refine Ev.congr (fun k => if_pos rfl) ?_
    refine Ev_bind (legsOk_i g) ?_
    rw [h2]
    exact Ev.now true
  · obtain ⟨x, hx⟩ : ∃ x, x = g.getD i z61 := ⟨_, rfl⟩
    have hxm : x ∈ g := by rw [hx, getD_get _ g i hi]; exact List.getElem_mem hi
    have hbd := legSum_bound hL.1 x.f0 x.f1
    have b0 := hbd g.length 0 (by omega) (by omega)
    rw [List.drop_zero] at b0
    have hof := goP_of hB.2 hL.1.2 h4 x.f0 x.f1
    have a1 := ofB_amt hB.2 x.f0 x.f1
    have a2 := ofB_amt ho.1 x.f0 x.f1
    unfold Amt at a1 a2
    have hsum := goP_sum hB.2 hL.1.2 h4 x.f1
    have hev := (evenL_iff g).1 hL.2 x hxm
    rw [hev] at hsum
    refine Ev.step (f := fun k => laws_FnPost.l1 k l g s o (i : Int) 0 0) (fun k => by simp only [laws_FnPost.l0]; rw [if_pos (by omega)]) ?_
    refine (Ev_goes' (fun k c j => laws_FnPost.l1 k l g s o (i : Int) c j) g.length (fun _ _ => r) (fun j c => c + legSum x.f0 x.f1 (g.drop j) = legSum x.f0 x.f1 g)
      (fun c hc => ?_) (fun j c hj hc => ?_) g.length 0 0 (by omega) (by omega) (by rw [List.drop_zero]; omega) : Ev (fun k => laws_FnPost.l1 k l g s o (i : Int) 0 ((0 : Nat) : Int)) r)
    · rw [List.drop_length] at hc
      have hc2 : c = legSum x.f0 x.f1 g := by rw [← hc]; show c = c + 0; omega
      -- what stands behind the sum
      have tailE : Ev (fun k => laws_FnPost.j2 k l g s o (i : Int) false) r := by
        refine Ev.step (f := fun k => (spec_BalsSum.f k l x.f1).bind fun t => (impl_BalsSum.f k o x.f1).bind fun t2 => if t.2 = true then (if t2.2 = true then (if t.1 = t2.1 then laws_FnPost.l0 k l g s o ((i + 1 : Nat) : Int) else none) else laws_FnPost.l0 k l g s o ((i + 1 : Nat) : Int)) else laws_FnPost.l0 k l g s o ((i + 1 : Nat) : Int)) (fun k => ?_) ?_
        · simp only [laws_FnPost.j2, rdL]
          rw [if_neg (by decide), if_pos (by omega), if_pos (by omega), w_succ hi (by omega), hx]
        · refine Ev_bind (balsSum_s l x.f1) (Ev_bind (balsSum_i o x.f1 (by omega)) ?_)
          have e1 : balsSum l x.f1 = told (sumB x.f1 l) true := if_pos h1
          have e2 : balsSum o x.f1 = told (sumB x.f1 l) true := by
            unfold balsSum
            rw [if_pos ho1, hsum, Int.add_zero]
          rw [e1, e2]
          cases ht : (told (sumB x.f1 l) true).2 with
          | true => exact Ev.congr (fun k => (if_pos rfl).trans ((if_pos rfl).trans (if_pos rfl))) hr
          | false => exact Ev.congr (fun k => if_neg (by decide)) hr
      refine Ev.step (f := fun k => (spec_BalOf.f k l x.f0 x.f1).bind fun t => (impl_BalOf.f k o x.f0 x.f1).bind fun t2 => if t2 = wrap64 (t + c) then (if t2 < 0 then (laws_within.f k s x.f0).bind (fun t3 => laws_FnPost.j2 k l g s o (i : Int) (!t3)) else laws_FnPost.j2 k l g s o (i : Int) false) else none) (fun k => ?_) ?_
      · show laws_FnPost.l1 (k + 1) l g s o (i : Int) c (g.length : Int) = _
        simp only [laws_FnPost.l1, rdL]
        rw [if_neg (by omega), if_pos (by omega), if_pos (by omega), hx]
      · refine Ev_bind (balOf_s l x.f0 x.f1 (by omega)) (Ev_bind (balOf_i o x.f0 x.f1 (by omega)) ?_)
        have e1 : balOf l x.f0 x.f1 = ofB x.f0 x.f1 l := if_pos ((okB_sort l).2 hB)
        have e2 : balOf o x.f0 x.f1 = ofB x.f0 x.f1 o := if_pos hoB
        rw [e1, e2, hc2]
        have hw : wrap64 (ofB x.f0 x.f1 l + legSum x.f0 x.f1 g) = ofB x.f0 x.f1 o := by rw [hof]; exact w64_in _ (by omega) (by omega)
        refine Ev.congr (fun k => if_pos hw.symm) ?_
        by_cases hneg : ofB x.f0 x.f1 o < 0
        · refine Ev.congr (fun k => if_pos hneg) ?_
          refine Ev_bind (within_w s x.f0 (by omega)) ?_
          have hsb := List.any_eq_false.1 h6 x hxm
          have hin : hasI s x.f0 = true := by
            cases hq : hasI s x.f0 with
            | true => rfl
            | false =>
              exfalso
              apply hsb
              unfold shortB
              rw [hq, decide_eq_true hneg]
              rfl
          rw [hin]
          exact tailE
        · exact Ev.congr (fun k => if_neg hneg) tailE
    · have e := legSum_drop x.f0 x.f1 g j hj
      have b1 := hbd (g.length - (j + 1)) (j + 1) rfl (by omega)
      have es : ∀ k, laws_FnPost.l1 (k + 1) l g s o (i : Int) c (j : Int) = if (g.getD j z61).f0 = x.f0 then (if (g.getD j z61).f1 = x.f1 then laws_FnPost.l1 k l g s o (i : Int) (wrap64 (c + (g.getD j z61).f2)) ((j + 1 : Nat) : Int) else laws_FnPost.l1 k l g s o (i : Int) c ((j + 1 : Nat) : Int)) else laws_FnPost.l1 k l g s o (i : Int) c ((j + 1 : Nat) : Int) := by
        intro k
        simp only [laws_FnPost.l1, rdL]
        rw [if_pos (by omega), if_pos (by omega), if_pos (by omega), if_pos (by omega), w_succ hj (by omega), hx]
      refine .inr ⟨c + (if (g.getD j z61).f0 = x.f0 ∧ (g.getD j z61).f1 = x.f1 then (g.getD j z61).f2 else 0), by omega, rfl, fun r2 hr2 => Ev.step (fun k => ?_) hr2⟩
      show laws_FnPost.l1 (k + 1) l g s o (i : Int) c (j : Int) = _
      rw [es]
      by_cases k1 : (g.getD j z61).f0 = x.f0
      · by_cases k2 : (g.getD j z61).f1 = x.f1
        · rw [if_pos ⟨k1, k2⟩] at e
          rw [if_pos k1, if_pos k2, if_pos ⟨k1, k2⟩, w64_in _ (by omega) (by omega)]
        · rw [if_pos k1, if_neg k2, if_neg (fun h => k2 h.2), Int.add_zero]
      · rw [if_neg k1, if_neg (fun h => k1 h.1), Int.add_zero]
theorem FnPost : laws_FnPost.Pure := by
  intro l0 _ hl1 _
  refine Ev.rounds ?_
  unfold laws_FnPost.f
  have hl : l0.length ≤ 140737488351232 := by omega
  refine Ev.congr (fun k => by unfold laws_big.f; rw [Option.bind_some]) ?_
  by_cases hb : (l0.length : Int) > 1048576
  · exact Ev_all_k fun k => by rw [decide_eq_true hb, if_pos rfl]
  refine Ev.congr (fun k => by rw [decide_eq_false hb, if_neg (by decide)]) ?_
  obtain ⟨l, g, s, hd, hl2, hg2, hs2⟩ := drawBalsPost_ok l0 hl
  refine Ev_bind hd ?_
  refine Ev_bind (post_i l g s (by omega) (by omega)) (Ev_bind (post_s l g s (by omega)) ?_)
  refine Ev.congr (fun k => if_pos rfl) ?_
  rcases postB_cases l g s with e | ⟨c, e, hc⟩ | ⟨o, e, h1, h2, h3, h4, h5, h6⟩
  · rw [e]
    exact Ev_all_k fun k => rfl
  · rw [e]
    have c0 : ¬ c = 0 := by omega
    have c1 : ¬ c = 1 := by omega
    refine Ev.congr (fun k => (if_neg c1).trans (if_neg c0)) ?_
    refine Ev_bind (same_self l (by omega)) ?_
    refine Ev.congr (fun k => if_pos rfl) ?_
    refine Ev_bind (legsOk_i g) ?_
    rcases hc with ⟨rfl, h⟩ | ⟨h0, h⟩
    · rw [h]
      exact Ev.now true
    · rw [h]
      have : (c == 2) = false := by rw [beq_eq_false_iff_ne]; omega
      exact Ev_all_k fun k => by show some ((c == 2) == (!true)) = _; rw [this]; rfl
  · rw [e]
    exact Ev.congr (fun k => (if_neg (show ¬ ((0 : Int) = 1) by decide)).trans (if_pos rfl)) (post_loop h1 h2 h3 h4 h5 h6)
end Go.Proofs.Ytpcjpjjkaplebaa.Pure
namespace Go.Proofs.YtpcjpjjkaplebaaW.PrintWords
open Go.ChangeShapes Go.WideShapes
theorem sized_ints {H : Type} {enc : TypeId × Value → H} {P : Program} {W : World} {base : Nat} {spare : Nat → Bool} {held : Bool} {t e : TypeId} {k : IntKind} {a : Option Addr} {len cap : Nat} {d : DataW H} {ps : List MemPlace} {ts : List TypeId} {ds : List (DataW H)} {j : Nat}
    (hsz : (DataW.weightsEach P ts ds).all (· ≤ reachBytes) = true) (ht : ts[j]? = some t) (hd : ds[j]? = some d) (hu : P.underlying t = some (.slice e)) (he : P.underlying e = some (.int k)) (hc : P.cellsOf e = 1) {B : Nat} (hB : P.bytesOf e = B)
    (h : DataW.Trod enc P W base spare held t (.slice a len cap) d ps) : len * B ≤ 140737488351232 := by
  obtain ⟨fuel, hf⟩ := h
  rcases open_ints hu he hc hf with ⟨hcs, _⟩ | ⟨x, l, c, zs, hcs, _, hl, _, hz, hx, _, _⟩
  · simp [Value.cells] at hcs
    obtain ⟨rfl, rfl, rfl⟩ := hcs
    simp
  · simp [Value.cells] at hcs
    obtain ⟨rfl, rfl, rfl⟩ := hcs
    obtain ⟨hx, _⟩ := Prod.mk.inj hx
    subst hx
    have z := sized_slice hsz ht hd hu
    rw [hB] at z
    have hl2 : len ≤ zs.length := by
      rw [hz]
      split
      · exact hl
      · exact Nat.le_refl _
    have h1 : (lits (H := H) k (zs.take len)).length + (lits (H := H) k (zs.drop len)).length = zs.length := by
      simp [lits]
      omega
    rw [h1] at z
    exact Nat.le_trans (Nat.mul_le_mul_right _ hl2) z
end Go.Proofs.YtpcjpjjkaplebaaW.PrintWords
namespace Go.Proofs.Ytpcjpjjkaplebaa.fnPost
open Go.ChangeShapes Go.WideShapes Go.ChangeAt Go.RowKit
open Go.ChangeMaps (open_string shut_string)
set_option linter.unusedVariables false
theorem own : ownKnob Try.prog.godebug = none := by kernel_rfl
theorem laidOut : laidOutB Try.prog = true := by kernel_rfl
def IsRow (k : IntKind) (w : World) (a : Option Addr) (len cap : Nat) (zs : List Int) : Prop :=
  (a = none ∧ len = 0 ∧ cap = 0 ∧ zs = []) ∨
  ∃ x, a = some x ∧ len ≤ cap ∧ cap ≤ maxLen ∧ zs.length = cap ∧ (∀ i, i < zs.length → w.cell? (x.add i) = some (.int k (zs.getD i 0))) ∧ ∀ n ∈ zs, (Lit.int k n).wf = true
set_option maxRecDepth 100000 in
theorem lifted (os : Os) (started : os.Started) (H : Type) (enc : TypeId × Value → H) :
    ReturnsInHanded {} Try.checked os 11 .any (Rows.fnPostSpec.pre6 enc Try.prog Try.f11 Rows.fnPostRow.domain false) (Rows.fnPostSpec.post enc Try.prog Try.f11 false true false false) := by
  refine returnsInHanded_of_change_sized (C := Try.checked) own started (by kernel_rfl) Try.func11
    (ChangeSpec.witness6 (enc := enc) (C := Try.checked) false ⟨#[], #[.slice none 0 0], []⟩ 8 (by kernel_rfl) (by kernel_rfl) (by kernel_rfl) (by kernel_rfl)) ?_
  intro W base args ds gs before hval0 hW hcnd hsz0 _
  have hsz : (DataW.weightsEach Try.prog (Try.f11.params.toList ++ Rows.fnPostSpec.plain.varTypes Try.prog) (ds ++ gs)).all (· ≤ reachBytes) = true := hsz0
  have hval : ∀ (j : Nat) t v, Try.f11.params[j]? = some t → args[j]? = some v → Value.okWide Try.prog W .any base t v := hval0
  have hW' := hW
  obtain ⟨p, q, hA0, hV, rfl, hfz, hnd⟩ := hW
  have hA : DataW.TrodAll enc Try.prog W 0 (fun _ => true) true Try.f11.params.toList args.toList ds p := hA0
  rw [Try.params11] at hA hval hsz
  obtain ⟨v0, vs0, d0, ds0, p0, q0, hargs, rfl, rfl, h0, r0⟩ := trodAll_cons hA
  obtain ⟨rfl, rfl, rfl⟩ := trodAll_nil r0
  obtain rfl : args = #[v0] := by cases args; simp_all
  obtain ⟨rfl, rfl⟩ := trodVars_none hV
  obtain ⟨a0, len0, cap0, rfl⟩ := okWide_slice Try.underlying53 (hval 0 53 v0 rfl rfl)
  have k0 := h0
  have lt0 : ∀ x ∈ p0, x.block < W.heap.size := by obtain ⟨m, hm⟩ := k0; exact DataW.trod_lt m _ _ _ hm
  obtain ⟨z0, w0⟩ : ∃ zs, IsRow .u8 W a0 len0 cap0 zs := by
    obtain ⟨fuel, hf⟩ := h0
    rcases open_ints Try.underlying53 Try.underlying5 (by kernel_rfl) hf with ⟨hcs, _⟩ | ⟨x, l, c, zs, hcs, _, hl, hm, hz, _, hcell, hwz⟩
    · simp [Value.cells] at hcs
      obtain ⟨rfl, rfl, rfl⟩ := hcs
      exact ⟨[], .inl ⟨rfl, rfl, rfl, rfl⟩⟩
    · simp [Value.cells] at hcs
      obtain ⟨rfl, rfl, rfl⟩ := hcs
      exact ⟨zs, .inr ⟨_, rfl, hl, hm, by simpa using hz, hcell, hwz⟩⟩
  have y0 : len0 * 1 ≤ 140737488351232 := Go.Proofs.YtpcjpjjkaplebaaW.PrintWords.sized_ints hsz (j := 0) (t := 53) rfl rfl Try.underlying53 Try.underlying5 (by kernel_rfl) (by kernel_rfl) h0
  clear hA0 hval0 hsz0 hsz
  refine (P.laws_FnPost.walk Pure.FnPost a0 len0 cap0 z0 W w0 y0).mono fun e W' ⟨he, bel⟩ => ?_
  subst he
  exact ⟨_, rfl, _, _, _, [], _, [], hW', trodAll_mk1 (shut_bool Try.underlying4 _), (trodAll_cons_mk (Below.trod laidOut (by kernel_rfl) (of_decide_eq_true (by kernel_rfl)) k0 bel lt0) trodAll_mk0), rfl, bel.frame _, fun h => by cases h⟩
theorem over : Rows.fnPostRow.holds Try.pinned (OpenSpec.ofChange Rows.fnPostSpec) :=
  OpenClaim.holds_of_wide 11 Try.f11 rfl rfl rfl rfl rfl rfl rfl ⟨rfl, rfl, rfl, rfl, rfl⟩ rfl rfl rfl rfl rfl (by kernel_rfl) Try.func11 (by kernel_rfl)
    (of_decide_eq_true (by kernel_rfl)) (by unfold Func.isWrapper; first | (rw [if_pos (by decide +kernel)]; kernel_rfl) | (rw [if_neg (by decide +kernel)]; exact ⟨rfl, rfl⟩))
    (fun os started H enc _ => lifted os started H enc)
theorem proved : Rows.FnPostSaid := over
#print axioms proved
end Go.Proofs.Ytpcjpjjkaplebaa.fnPost
namespace Go.Proofs.Ytpcjpjjkaplebaa
theorem fnPost_holds : Rows.FnPostSaid := fnPost.proved
end Go.Proofs.Ytpcjpjjkaplebaa
