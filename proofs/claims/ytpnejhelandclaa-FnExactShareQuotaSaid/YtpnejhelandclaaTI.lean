/- The laws' helpers over lists of ints: the copy, and that a list is found equal to itself. -/
import Derived.Test.YtpnejhelandclaaPx0
import Derived.Test.YtpnejhelandclaaPx1
import Derived.Test.YtpnejhelandclaaEV
namespace Go.Proofs.Ytpnejhelandclaa.TI
open Go Go.RowKit Go.Proofs.Ytpnejhelandclaa.P Go.Proofs.YtpnejhelandclaaW.PrintWords Go.Proofs.YtpnejhelandclaaW.PrintLast Go.Proofs.Ytpnejhelandclaa.EV
theorem rdi (l : List Int) (i : Nat) : rd l (i : Int) = l.getD i 0 := by unfold rd; rw [Int.toNat_natCast]
theorem to_Int (l : List Int) (hl : l.length ≤ 1048576) : Ev (fun k => laws_toIntS.f k l) l := by
  unfold laws_toIntS.f
  have h := Ev_goes (fun k s i => laws_toIntS.l0 k l s i) l.length (fun i s => s.take i ++ l.drop i) (fun i s => s.length = l.length)
    (fun s hs => Ev_one fun k => by
      simp only [laws_toIntS.l0]
      rw [if_neg (by omega), List.drop_length, List.append_nil, ← hs, List.take_length])
    (fun i s hi hs => .inr ⟨s.set i (l.getD i 0), by rw [List.length_set]; exact hs, by
        rw [List.take_add_one, List.take_set_of_le (Nat.le_refl i), List.getElem?_set_self (by omega), List.drop_eq_getElem_cons hi]
        have : l.getD i 0 = l[i] := by rw [List.getD_eq_getElem?_getD, List.getElem?_eq_getElem hi]; rfl
        rw [this]
        simp, fun k => by
        show laws_toIntS.l0 (k + 1) l s (i : Int) = _
        simp only [laws_toIntS.l0]
        rw [if_pos (by omega), if_pos (by omega), w_succ hi (by omega)]
        simp only [rdi]
        rw [if_pos (by omega)]
        simp only [Int.toNat_natCast]⟩) l.length 0 (List.replicate l.length 0) (by omega) (by omega) (by simp)
  refine Ev.congr (fun k => ?_) h
  rw [if_pos (by omega), if_pos (by omega)]
  rfl
theorem eq_Int (l : List Int) (hl : l.length ≤ 9223372036854775807) : Ev (fun k => laws_eqIntS.f k l l) true := by
  unfold laws_eqIntS.f
  obtain ⟨r, hr, hiff⟩ := Ev_asks (fun k i => laws_eqIntS.l0 k l l i) l.length (fun _ => True) true
    (Ev_one fun k => by simp only [laws_eqIntS.l0]; rw [if_neg (by omega)])
    (fun i hi => .inl ⟨trivial, fun k => by
      show laws_eqIntS.l0 (k + 1) l l (i : Int) = _
      simp only [laws_eqIntS.l0]
      rw [if_pos (by omega), if_pos (by omega), if_pos (by omega), if_pos trivial, w_succ hi (by omega)]⟩) l.length 0 (by omega) (by omega)
  obtain rfl : r = true := hiff.2 ⟨fun _ _ _ => trivial, rfl⟩
  refine Ev.congr (fun k => ?_) hr
  rw [if_pos rfl]
  rfl
end Go.Proofs.Ytpnejhelandclaa.TI
