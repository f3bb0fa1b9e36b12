/- The abstract evaluator: a closed run, worked out, is a contract. -/
import Derived.Test.YtbbojdjgabdjmaaGreatDoorEngSim4
namespace Go.Eng
open Go Go.RowKit

/-- The heap at the start: nothing of it is known. -/
noncomputable def h0 : H := ⟨T5.rep .dead, 4096⟩
def ι0 : Inj := fun b => ⟨b, 0, 0⟩
theorem h0_at {b : Nat} (hb : b < 4096) : h0.at b = .dead := T5.get_rep _ (by omega)
theorem R0 (w : World) : R w.heap.size ι0 h0 w where
  n := by decide
  obj := fun b hb => by rw [h0_at hb]; trivial
  inj := fun b b' hb hb' hl _ _ => by rw [h0_at hb] at hl; cases hl
  own := fun k ⟨b, hb, hw, _⟩ => by rw [h0_at hb] at hw; cases hw
  sz := Nat.le_refl _
  lt := fun b hb hl => by rw [h0_at hb] at hl; cases hl
theorem Glob0 : Glob ι0 h0 := ⟨Nat.le_refl _, fun _ _ => ⟨rfl, rfl⟩⟩
noncomputable def noGam : Nat → Option (List AV → H → E (AV × H)) := fun _ => none
/-- What a closed call of C comes to: its value, if it names no block. -/
noncomputable def closedV (m : E (AV × H)) : E AV := m.bd2 fun v _ => .ok v

variable {C : Cx} {P : Program}
theorem closed_ok (hC : CxOk C P) (hg : GamOk C P) {f : FuncId} {fn : Func} (hf : C.fn.get f = some fn) (hb : fn.body.isSome = true)
    {K : Nat} {args : List AV} {v : AV} (hargs : okL ι0 4096 args) (e : closedV ((ev C (drawnV C) K).call f args h0) = .ok v) (w : World) :
    Calls P f (concL ι0 args).toArray w fun e w' => ∃ ι', e = .returned (conc ι' v) ∧ Below w.heap.size w w' := by
  obtain ⟨v1, h1, e1, e2⟩ := E.bd2_eq_ok e
  injection e2 with e2
  subst e2
  obtain ⟨_, hcall⟩ := ev_ok hC (drawnV_ok hC hC.mixed) hg (range_ok hC) K
  rcases hcall f args h0 v1 h1 e1 w.heap.size ι0 w (R0 w) Glob0 hargs with ⟨_, h3⟩ | ⟨ι', w', h3, _⟩
  · refine ((h3 none 0).calls (fun k d hd => by cases hd)).mono fun e w' hret => ?_
    obtain ⟨ι', rfl, hS, _⟩ := hret
    exact ⟨ι', rfl, hS.below (R0 w)⟩
  · rw [hC.call f fn hf hb] at h3
    cases h3
theorem memN_mem {l : List Nat} {t : Nat} (h : memN l t = true) : t ∈ l := by
  induction l with
  | nil => cases h
  | cons a l ih =>
    have h : ite' (Nat.beq a t) true (memN l t) = true := h
    cases hb : Nat.beq a t with
    | true => rw [beq_eq hb]; exact List.mem_cons_self ..
    | false => rw [hb, ite'_false] at h; exact List.mem_cons_of_mem _ (ih h)
theorem run_enter {P : Program} {f : FuncId} {fn : Func} (hf : P.funcs[f]? = some fn) (hn : (fn.name == "runtime.NumGoroutine") = false) (hb : fn.body.isSome = true) (args : Array Value) (w : World) :
    (callFunc f args).run P w = .ok (.enter f args) w := by
  have hnn : fn.body.isNone = false := by
    cases hbd : fn.body with
    | none => rw [hbd] at hb; cases hb
    | some c => rfl
  unfold callFunc
  have hp : (program : Sem Program).run P w = .ok P w := rfl
  simp only [Sem.run_bind, hp, Result.andThen_ok, hf, hn, hnn, Bool.false_eq_true, if_false, Sem.run_pure]
/-- The context's tables are the program's. -/
theorem cxOk_of {P : Program} {ty : BT TypeInfo} {fn : BT Func} {eqt : List Nat} {gam : Nat → Option (List AV → H → E (AV × H))} (h1 : ty.okB = true) (h2 : fn.okB = true) (h3 : ty.list = P.types.toList) (h4 : fn.list = P.funcs.toList)
    (h5 : (fn.list.all fun fn => !(fn.name == "runtime.NumGoroutine")) = true) (h6 : (eqt.all fun t => !P.stoodInHeld t) = true) (h7 : P.follows .mixedOrders = true) (h8 : Nat.ble 8 P.depth = true) : CxOk ⟨ty, fn, eqt, gam⟩ P where
  ty := fun t i h => by
    have g1 := (BT.get_eq ty h1 t).symm.trans h
    rw [h3, Array.getElem?_toList] at g1
    have hlt : t < P.types.size := (Array.getElem?_eq_some_iff.1 g1).1
    show Tables.info? P.toTables t = some i
    unfold Tables.info?
    rw [if_pos hlt]
    exact g1
  fn := fun f fn h => by
    have g1 := (BT.get_eq _ h2 f).symm.trans h
    rw [h4, Array.getElem?_toList] at g1
    exact g1
  call := fun f fn h hb args w => by
    have g1 := (BT.get_eq _ h2 f).symm.trans h
    have hn : (fn.name == "runtime.NumGoroutine") = false := by
      have := List.all_eq_true.1 h5 fn (List.mem_of_getElem? g1)
      simpa only [Bool.not_eq_true'] using this
    rw [h4, Array.getElem?_toList] at g1
    exact run_enter g1 hn hb args w
  eq := fun t ht => by
    have := List.all_eq_true.1 h6 t (memN_mem ht)
    simpa only [Bool.not_eq_true'] using this
  mixed := h7
  dep := ble_eq h8
end Go.Eng
