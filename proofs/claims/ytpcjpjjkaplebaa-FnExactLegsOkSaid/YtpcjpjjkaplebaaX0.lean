/- A call of a function value, as one step of the walk; what a predicate's value answers. No program in sight. -/
import Derived.Below
import Derived.WalkKit
import Derived.Deep.Draws
import Derived.Test.YtpcjpjjkaplebaaWWords
import Derived.Test.YtpcjpjjkaplebaaWLast
import Derived.Test.YtpcjpjjkaplebaaWMore
namespace Go.Proofs.Ytpcjpjjkaplebaa.X0
open Go Go.RowKit Go.Proofs.YtpcjpjjkaplebaaW.PrintWords Go.Proofs.YtpcjpjjkaplebaaW.PrintLast Go.Proofs.YtpcjpjjkaplebaaW.PrintMore

section
variable {P : Program} {ops : Array Oper} {Q : Exit → Act → World → Prop}
/-- A call of a function value in a plain region. -/
theorem goesV_ {rest : List Oper} {oi : Oper} {a : Act} {w : World} (N : Option Tmp) (hd : oi.dst = N) (hg : oi.guard = none) {f : FuncId} {fn : Func} {x : Operand} {as : Array Operand} {ts : Array TypeId} (caps : Array Value)
    (hf : P.funcs[f]? = some fn) (hname : (fn.name == "runtime.NumGoroutine") = false) (hb : fn.body.isSome = true) (args : Array Value)
    (hop : oi.op = .call { callee := .value x, args := as, argTypes := ts }) (hx : a.eval x = .func (.func f) #[] caps) (hargs : as.map a.eval = args)
    (h : Calls P f (args ++ caps) w fun e w' => ∃ v, e = .returned v ∧ wpList P ops Q rest (a.put N v) w') : wpList P ops Q (oi :: rest) a w := by
  refine wpList_plain hg fun K hK => ?_
  have he := enters_ hf hname hb (args ++ caps) w
  have hrun : (execOp a.eval oi).run P w = .ok (.enter f (args ++ caps)) w := by
    have hx' : Act.eval a x = .func (.func f) #[] caps := hx
    unfold execOp
    simp [hop, resolve, Deferred.ofValue, invoke, hx', hargs, he]
  unfold Oper.wp
  rw [hrun, Oper.upon_enter]
  refine h.mono fun e w'' hh => ?_
  obtain ⟨v, rfl, hk⟩ := hh
  subst hd
  exact hK _ _ hk
end

/-- A predicate's value: called at any element, in any world behind w, it answers p and leaves what is there alone. -/
def FnB {α : Type} (P : Program) (fc : FuncId) (caps : Array Value) (w : World) (enc : α → Value) (p : α → Bool) : Prop :=
  ∃ fn, P.funcs[fc]? = some fn ∧ (fn.name == "runtime.NumGoroutine") = false ∧ fn.body.isSome = true ∧
    ∀ (x : α) (W : World), Below w.heap.size w W → Calls P fc (#[enc x] ++ caps) W fun e W' => e = .returned (.bool (p x)) ∧ Below W.heap.size W W'
theorem FnB.later {α : Type} {P : Program} {fc : FuncId} {caps : Array Value} {w w1 : World} {enc : α → Value} {p : α → Bool} (h : FnB P fc caps w enc p) (hb : Below w.heap.size w w1) : FnB P fc caps w1 enc p := by
  obtain ⟨fn, h1, h2, h3, h4⟩ := h
  exact ⟨fn, h1, h2, h3, fun x W hW => h4 x W (below_step hb hW)⟩

/-- The place of the first that p takes, or -1. -/
def idx {α : Type} (p : α → Bool) : List α → Int
  | [] => -1
  | x :: l => if p x = true then 0 else (if idx p l = -1 then -1 else idx p l + 1)
theorem idx_range {α : Type} (p : α → Bool) (l : List α) : -1 ≤ idx p l ∧ idx p l < l.length := by
  induction l with
  | nil => exact ⟨by show (-1 : Int) ≤ -1; decide, by show (-1 : Int) < 0; decide⟩
  | cons x l ih =>
    unfold idx
    rw [List.length_cons]
    split
    · omega
    · split <;> omega
/-- From place i on nothing but the rest decides. -/
theorem idx_skip {α : Type} (p : α → Bool) (z : α) : ∀ (l : List α) (i : Nat), i ≤ l.length → (∀ j, j < i → p (l.getD j z) = false) →
    idx p l = if idx p (l.drop i) = -1 then -1 else idx p (l.drop i) + i := by
  intro l
  induction l with
  | nil =>
    intro i hi _
    have : i = 0 := by simpa using hi
    subst this
    simp [idx]
  | cons x l ih =>
    intro i hi h
    cases i with
    | zero =>
      rw [List.drop_zero]
      split
      · assumption
      · omega
    | succ i =>
      have h0 : p x = false := h 0 (by omega)
      have hr := ih i (by simpa using hi) (fun j hj => h (j + 1) (by omega))
      rw [List.drop_succ_cons]
      conv => lhs; unfold idx
      rw [h0, if_neg (by decide), hr]
      have := (idx_range p (l.drop i)).1
      split
      · rw [if_pos rfl]
      · rw [if_neg (by omega)]
        omega
theorem idx_found {α : Type} (p : α → Bool) (z : α) (l : List α) (i : Nat) (hi : i < l.length) (h : ∀ j, j < i → p (l.getD j z) = false) (ht : p (l.getD i z) = true) : idx p l = i := by
  have e : l.drop i = l.getD i z :: l.drop (i + 1) := by
    rw [List.drop_eq_getElem_cons hi, List.getD_eq_getElem?_getD, List.getElem?_eq_getElem hi]
    rfl
  rw [idx_skip p z l i (by omega) h, e]
  unfold idx
  rw [ht, if_pos rfl, if_neg (by decide)]
  omega
theorem idx_none {α : Type} (p : α → Bool) (z : α) (l : List α) (h : ∀ j, j < l.length → p (l.getD j z) = false) : idx p l = -1 := by
  rw [idx_skip p z l l.length (by omega) h, List.drop_length]
  rfl
theorem idx_any {α : Type} (p : α → Bool) (l : List α) : decide (0 ≤ idx p l) = l.any p := by
  induction l with
  | nil => rfl
  | cons x l ih =>
    unfold idx
    rw [List.any_cons, ← ih]
    have := (idx_range p l).1
    cases hp : p x with
    | true => simp
    | false =>
      simp only [Bool.false_eq_true, if_false, Bool.false_or]
      split
      · rename_i h
        rw [h]
      · rename_i h
        rw [Bool.eq_iff_iff, decide_eq_true_iff, decide_eq_true_iff]
        omega
end Go.Proofs.Ytpcjpjjkaplebaa.X0
