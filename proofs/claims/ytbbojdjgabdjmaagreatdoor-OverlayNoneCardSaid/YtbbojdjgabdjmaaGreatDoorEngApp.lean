/- The abstract evaluator, soundness 5: the model's append, run. -/
import Derived.Test.YtbbojdjgabdjmaaGreatDoorEngVal2
import Derived.Laws.AppendOwn
namespace Go.Eng
open Go Go.RowKit

section
variable {P : Program} {w : World}
theorem run_append_fits {ats : Array TypeId} {ty t e : TypeId} {size sLen sCap n : Nat} {base : Option Addr} {x : Value} {new : Array Value} (h0 : ats[0]? = some t) (ht : P.underlying t = some (.slice e)) (hs : (sizeOf e).run P w = .ok size w)
    (hz : ∀ u, ats[1]? = some u → ∃ d, P.underlying u = some d ∧ ∀ k, d ≠ .int k) (hl : (Builtin.lenOf x).run P w = .ok n w) (hf : (Builtin.firstCells size n x).run P w = .ok new w) (hfit : sLen + n ≤ sCap) :
    (Builtin.append_ ats ty #[.slice base sLen sCap, x]).run P w =
      (match base with | some a => (storeCells (a.add (sLen * size)) new.toList).run P w | none => .ok () w).andThen fun _ w' => .ok (.slice base (sLen + n) sCap) w' := by
  have hut : (underlying t).run P w = .ok (.slice e) w := by unfold underlying; simp [ht]
  unfold Builtin.append_
  cases h1 : ats[1]? with
  | none =>
    simp only [h0, Sem.run_bind, hut, Result.andThen_ok, hs, Sem.run_pure, Bool.false_eq_true, if_false, hl, hfit, if_true, Bool.not_false, hf, List.getElem?_toArray, List.getElem?_cons_zero, List.getElem?_cons_succ]
    cases base <;> simp
  | some u =>
    obtain ⟨d, hd, hk⟩ := hz u h1
    have hu : (underlying u).run P w = .ok d w := by unfold underlying; simp [hd]
    cases d <;> first
      | exact absurd rfl (hk _)
      | (simp only [h0, hu, Sem.run_bind, hut, Result.andThen_ok, hs, Sem.run_pure, Bool.false_eq_true, if_false, hl, hfit, if_true, Bool.not_false, hf, List.getElem?_toArray, List.getElem?_cons_zero, List.getElem?_cons_succ]
         cases base <;> simp)
theorem run_append_fresh {ats : Array TypeId} {ty t e : TypeId} {i : TypeInfo} {z x : Value} {sLen sCap n : Nat} {base : Option Addr} {old new : Array Value} (h0 : ats[0]? = some t) (ht : P.underlying t = some (.slice e)) (hi : P.info? e = some i) (hz0 : i.zero = some z)
    (hz : ∀ u, ats[1]? = some u → ∃ d, P.underlying u = some d ∧ ∀ k, d ≠ .int k) (hl : (Builtin.lenOf x).run P w = .ok n w) (hf : (Builtin.firstCells i.size n x).run P w.drew = .ok new w.drew)
    (ho : (Builtin.firstCells i.size sLen (.slice base sLen sCap)).run P w.drew = .ok old w.drew) (hfit : sCap < sLen + n) (hs1 : sLen + n < 1000000000000) (hs2 : (sLen + n) * i.bytes < 1000000000000) :
    ∃ c, sLen + n ≤ c ∧ (Builtin.append_ ats ty #[.slice base sLen sCap, x]).run P w = .ok (.slice (some ⟨w.heap.size, 0, none⟩) (sLen + n) c) (w.drew.alloc (.cells (old ++ new ++ Builtin.zeroCells z.cells (c - (sLen + n))) e)) := by
  have hut : (underlying t).run P w = .ok (.slice e) w := by unfold underlying; simp [ht]
  have hsz : ∀ w, (sizeOf e).run P w = .ok i.size w := fun w => by unfold sizeOf typeInfo; simp [hi]
  have hti : ∀ w, (typeInfo e).run P w = .ok i w := fun w => by unfold typeInfo; simp [hi]
  have hzv : ∀ w, (zeroValue e).run P w = .ok z w := fun w => by unfold zeroValue; simp [hti, hz0]
  have hn : ¬ (sLen + n ≤ sCap) := by omega
  have h63 : ¬ (((sLen + n : Nat) : Int) > IntKind.i64.max ∧ (false = true ∨ i.bytes = 0)) := by
    have : IntKind.i64.max = 9223372036854775807 := by decide
    omega
  have h48 : ¬ (Builtin.nextslicecap (sLen + n) sCap * i.bytes > 2 ^ 48) := by
    have := growslice_fits hfit (bytes := i.bytes) (by omega)
    have h : (2 : Nat) ^ 48 = 281474976710656 := by decide
    omega
  have h63' : ¬ (((sLen + n : Nat) : Int) > IntKind.i64.max ∧ (False ∨ i.bytes = 0)) := by simpa using h63
  refine ⟨grownCap w (sLen + n) sCap e, grownCap_ge w _ _ e, ?_⟩
  unfold Builtin.append_
  cases h1 : ats[1]? with
  | none =>
    simp only [h0, Sem.run_bind, hut, Result.andThen_ok, hsz, Sem.run_pure, Bool.false_eq_true, if_false, hl, hn, Bool.not_false, if_true, List.getElem?_toArray, List.getElem?_cons_zero, List.getElem?_cons_succ, hti, Sem.run_ite, run_choose, Question.forced, run_askRoom, hzv]
    rw [if_neg h63', if_neg h48]
    simp only [World.drew_eq, Result.andThen_ok, ho, hf, run_newRow]
    rfl
  | some u =>
    obtain ⟨d, hd, hk⟩ := hz u h1
    have hu : (underlying u).run P w = .ok d w := by unfold underlying; simp [hd]
    cases d <;> first
      | exact absurd rfl (hk _)
      | (simp only [h0, hu, Sem.run_bind, hut, Result.andThen_ok, hsz, Sem.run_pure, Bool.false_eq_true, if_false, hl, hn, Bool.not_false, if_true, List.getElem?_toArray, List.getElem?_cons_zero, List.getElem?_cons_succ, hti, Sem.run_ite, run_choose, Question.forced, run_askRoom, hzv]
         rw [if_neg h63', if_neg h48]
         simp only [World.drew_eq, Result.andThen_ok, ho, hf, run_newRow]
         rfl)
end
end Go.Eng
