/- The laws' own helpers: the copies of lists into the program's types, their sizes, and that a list is found equal to itself. -/
import Derived.Test.YtpcjpjjkaplebaaPx0
import Derived.Test.YtpcjpjjkaplebaaPx2
import Derived.Test.YtpcjpjjkaplebaaPx3
import Derived.Test.YtpcjpjjkaplebaaPx4
import Derived.Test.YtpcjpjjkaplebaaPx5
import Derived.Test.YtpcjpjjkaplebaaEV
namespace Go.Proofs.Ytpcjpjjkaplebaa.T1
open Go Go.RowKit Go.Proofs.Ytpcjpjjkaplebaa.P Go.Proofs.YtpcjpjjkaplebaaW.PrintWords Go.Proofs.YtpcjpjjkaplebaaW.PrintLast Go.Proofs.Ytpcjpjjkaplebaa.EV





def cvBal (x : S66) : S58 := ⟨x.f0, x.f1, x.f2⟩
theorem sz_Bal  (l : List S66) (left : Int) (h0 : 0 ≤ left) (h1 : left ≤ 1048576) (hm : l.length ≤ 9223372036854775807) : laws_szBalS.f l left = some (if left < (l.length : Int) then -1 else left - l.length) := by
  unfold laws_szBalS.f
  rw [w64_in _ (by omega) (by omega)]
  by_cases h : left < (l.length : Int)
  · rw [if_pos h, if_pos (by omega)]
  · rw [if_neg h, if_neg (by omega)]
theorem rd1_Bal (l : List S66) (i : Nat) : rd_T66 l (i : Int) = l.getD i z66 := by unfold rd_T66; rw [Int.toNat_natCast]
theorem rd2_Bal (l : List S58) (i : Nat) : rd_T58 l (i : Int) = l.getD i z58 := by unfold rd_T58; rw [Int.toNat_natCast]
theorem to_Bal  (l : List S66) (hl : l.length ≤ 1048576) : Ev (fun k => laws_toBalS.f k l) (l.map cvBal) := by
  unfold laws_toBalS.f
  have h := Ev_goes (fun k s i => laws_toBalS.l0 k l s i) l.length (fun i s => s.take i ++ (l.drop i).map cvBal) (fun i s => s.length = l.length)
    (fun s hs => Ev_one fun k => by
      simp only [laws_toBalS.l0]
      rw [if_neg (by omega), List.drop_length, List.map_nil, List.append_nil, ← hs, List.take_length])
    (fun i s hi hs => .inr ⟨s.set i (cvBal (l.getD i z66)), by rw [List.length_set]; exact hs, by
        rw [List.take_add_one, List.take_set_of_le (Nat.le_refl i), List.getElem?_set_self (by omega), List.drop_eq_getElem_cons hi, List.map_cons]
        have : l.getD i z66 = l[i] := by rw [List.getD_eq_getElem?_getD, List.getElem?_eq_getElem hi]; rfl
        rw [this]
        simp, fun k => by
        show laws_toBalS.l0 (k + 1) l s (i : Int) = _
        simp only [laws_toBalS.l0]
        rw [if_pos (by omega), if_pos (by omega), w_succ hi (by omega)]
        simp only [laws_toBal.f, Option.bind_some, rd1_Bal]
        rw [if_pos (by omega)]
        simp only [Int.toNat_natCast]
        rfl⟩) l.length 0 (List.replicate l.length z58) (by omega) (by omega) (by simp)
  refine Ev.congr (fun k => ?_) h
  rw [if_pos (by omega), if_pos (by omega)]
  rfl
theorem eq1_Bal (x : S58) : laws_eqBal.f x.f0 x.f1 x.f2 x.f0 x.f1 x.f2 = some true := by unfold laws_eqBal.f; simp
theorem eq_Bal (l : List S58) (hl : l.length ≤ 9223372036854775807) : Ev (fun k => laws_eqBalS.f k l l) true := by
  unfold laws_eqBalS.f
  obtain ⟨r, hr, hiff⟩ := Ev_asks (fun k i => laws_eqBalS.l0 k l l i) l.length (fun _ => True) true
    (Ev_one fun k => by simp only [laws_eqBalS.l0]; rw [if_neg (by omega)])
    (fun i hi => .inl ⟨trivial, fun k => by
      show laws_eqBalS.l0 (k + 1) l l (i : Int) = _
      simp only [laws_eqBalS.l0]
      rw [if_pos (by omega), if_pos (by omega), if_pos (by omega), w_succ hi (by omega)]
      simp only [eq1_Bal, Option.bind_some, if_true]⟩) l.length 0 (by omega) (by omega)
  obtain rfl : r = true := hiff.2 ⟨fun _ _ _ => trivial, rfl⟩
  refine Ev.congr (fun k => ?_) hr
  rw [if_pos rfl]
  rfl


def cvLeg (x : S70) : S61 := ⟨x.f0, x.f1, x.f2⟩
theorem sz_Leg  (l : List S70) (left : Int) (h0 : 0 ≤ left) (h1 : left ≤ 1048576) (hm : l.length ≤ 9223372036854775807) : laws_szLegS.f l left = some (if left < (l.length : Int) then -1 else left - l.length) := by
  unfold laws_szLegS.f
  rw [w64_in _ (by omega) (by omega)]
  by_cases h : left < (l.length : Int)
  · rw [if_pos h, if_pos (by omega)]
  · rw [if_neg h, if_neg (by omega)]
theorem rd1_Leg (l : List S70) (i : Nat) : rd_T70 l (i : Int) = l.getD i z70 := by unfold rd_T70; rw [Int.toNat_natCast]
theorem rd2_Leg (l : List S61) (i : Nat) : rd_T61 l (i : Int) = l.getD i z61 := by unfold rd_T61; rw [Int.toNat_natCast]
theorem to_Leg  (l : List S70) (hl : l.length ≤ 1048576) : Ev (fun k => laws_toLegS.f k l) (l.map cvLeg) := by
  unfold laws_toLegS.f
  have h := Ev_goes (fun k s i => laws_toLegS.l0 k l s i) l.length (fun i s => s.take i ++ (l.drop i).map cvLeg) (fun i s => s.length = l.length)
    (fun s hs => Ev_one fun k => by
      simp only [laws_toLegS.l0]
      rw [if_neg (by omega), List.drop_length, List.map_nil, List.append_nil, ← hs, List.take_length])
    (fun i s hi hs => .inr ⟨s.set i (cvLeg (l.getD i z70)), by rw [List.length_set]; exact hs, by
        rw [List.take_add_one, List.take_set_of_le (Nat.le_refl i), List.getElem?_set_self (by omega), List.drop_eq_getElem_cons hi, List.map_cons]
        have : l.getD i z70 = l[i] := by rw [List.getD_eq_getElem?_getD, List.getElem?_eq_getElem hi]; rfl
        rw [this]
        simp, fun k => by
        show laws_toLegS.l0 (k + 1) l s (i : Int) = _
        simp only [laws_toLegS.l0]
        rw [if_pos (by omega), if_pos (by omega), w_succ hi (by omega)]
        simp only [laws_toLeg.f, Option.bind_some, rd1_Leg]
        rw [if_pos (by omega)]
        simp only [Int.toNat_natCast]
        rfl⟩) l.length 0 (List.replicate l.length z61) (by omega) (by omega) (by simp)
  refine Ev.congr (fun k => ?_) h
  rw [if_pos (by omega), if_pos (by omega)]
  rfl
theorem eq1_Leg (x : S61) : laws_eqLeg.f x.f0 x.f1 x.f2 x.f0 x.f1 x.f2 = some true := by unfold laws_eqLeg.f; simp
theorem eq_Leg (l : List S61) (hl : l.length ≤ 9223372036854775807) : Ev (fun k => laws_eqLegS.f k l l) true := by
  unfold laws_eqLegS.f
  obtain ⟨r, hr, hiff⟩ := Ev_asks (fun k i => laws_eqLegS.l0 k l l i) l.length (fun _ => True) true
    (Ev_one fun k => by simp only [laws_eqLegS.l0]; rw [if_neg (by omega)])
    (fun i hi => .inl ⟨trivial, fun k => by
      show laws_eqLegS.l0 (k + 1) l l (i : Int) = _
      simp only [laws_eqLegS.l0]
      rw [if_pos (by omega), if_pos (by omega), if_pos (by omega), w_succ hi (by omega)]
      simp only [eq1_Leg, Option.bind_some, if_true]⟩) l.length 0 (by omega) (by omega)
  obtain rfl : r = true := hiff.2 ⟨fun _ _ _ => trivial, rfl⟩
  refine Ev.congr (fun k => ?_) hr
  rw [if_pos rfl]
  rfl






end Go.Proofs.Ytpcjpjjkaplebaa.T1
