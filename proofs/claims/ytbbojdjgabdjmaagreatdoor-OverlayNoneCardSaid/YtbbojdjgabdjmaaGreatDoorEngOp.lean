/- The abstract evaluator, soundness 10: one operation. -/
import Derived.Test.YtbbojdjgabdjmaaGreatDoorEngBuild
import Derived.CallsIn
namespace Go.Eng
open Go Go.RowKit

structure FrR (ι : Inj) (h : H) (fr : Fr) (a : Act) (r : Option Nat) : Prop where
  tm : Tmps ι h.n fr.n fr.t a.tmps
  df : a.defers = fr.defs.map fun b => { target := .collected (ι b).blk, args := #[] }
  db : ∀ b ∈ fr.defs, b < h.n
  rnd : r = fr.rnd.map fun l => (ι l).blk
  rb : ∀ l, fr.rnd = some l → l < h.n
structure Glob (ι : Inj) (h : H) : Prop where
  n : 4096 ≤ h.n
  pos : ∀ g, g < 4096 → (ι g).blk = g ∧ (ι g).off = 0
theorem Glob.step {B : Nat} {ι ι' : Inj} {h h' : H} {w w' : World} (s : Stp B ι ι' h h' w w') (g : Glob ι h) : Glob ι' h' :=
  ⟨Nat.le_trans g.n s.le, fun k hk => by rw [s.ext' k (Nat.lt_of_lt_of_le hk g.n)]; exact g.pos k hk⟩
theorem FrR.step {B : Nat} {ι ι' : Inj} {h h' : H} {w w' : World} {fr : Fr} {a : Act} {r : Option Nat} (s : Stp B ι ι' h h' w w') (f : FrR ι h fr a r) : FrR ι' h' fr a r where
  tm := f.tm.ext s.le s.ext'
  df := by
    rw [f.df]
    apply List.map_congr_left
    intro b hb
    rw [s.ext' b (f.db b hb)]
  db := fun b hb => Nat.lt_of_lt_of_le (f.db b hb) s.le
  rnd := by
    rw [f.rnd]
    cases hr : fr.rnd with
    | none => rfl
    | some l => simp [s.ext' l (f.rb l hr)]
  rb := fun l hl => Nat.lt_of_lt_of_le (f.rb l hl) s.le

theorem evTmp_ok {fr : Fr} {t : Tmp} {v : AV} (e : evTmp t fr = .ok v) : t < fr.n ∧ T3.get fr.t t = v := by
  obtain ⟨fn, n, ts, rnd, defs⟩ := fr
  obtain ⟨h1, h2⟩ := chk_ok (show chk (Nat.blt t n) 221 (.ok (T3.get ts t)) = .ok v from e)
  injection h2 with h2
  exact ⟨blt_eq h1, h2⟩
section
variable {ι : Inj} {h : H} {fr : Fr} {a : Act} {r : Option Nat} (hF : FrR ι h fr a r) (hG : Glob ι h)
include hF hG
theorem evO_ok {x : Operand} {v : AV} (e : evO fr x = .ok v) : a.eval x = conc ι v ∧ okV ι h.n v := by
  cases x with
  | tmp t =>
    obtain ⟨h1, h2⟩ := evTmp_ok (show evTmp t fr = .ok v from e)
    obtain ⟨g1, g2⟩ := hF.tm.2.2 t h1
    rw [h2] at g1 g2
    exact ⟨by simp [Act.eval, Array.getD_eq_getD_getElem?, g1], g2⟩
  | const c =>
    obtain ⟨g1, g2⟩ := ofV_ok (ι := ι) (n := h.n) (show ofV c = .ok v from e)
    exact ⟨g1.symm, g2⟩
  | global g =>
    obtain ⟨g1, g2⟩ := chk_ok (show chk (Nat.blt g 4096) 222 (.ok (.ptr g 0)) = .ok v from e)
    injection g2 with g2
    subst g2
    have := hG.pos g (blt_eq g1)
    have h4 := hG.n
    refine ⟨?_, by have := blt_eq g1; show g < h.n; omega⟩
    simp [Act.eval, conc, this.1, this.2]
  | func f =>
    have e : (E.ok (AV.func (.func f) [] []) : E AV) = .ok v := e
    injection e with e
    subst e
    exact ⟨rfl, trivial, trivial, trivial⟩
theorem evOs_ok {l : List Operand} {vs : List AV} (e : evOs fr l = .ok vs) : l.map a.eval = concL ι vs ∧ okL ι h.n vs := by
  constructor
  · rw [concL_eq]
    exact (mapE_map (g := a.eval) (k := conc ι) (fun x v e => (evO_ok hF hG e).1.symm) e).symm
  · rw [okL_iff]
    exact mapE_all (p := okV ι h.n) (fun x v e => (evO_ok hF hG e).2) e
theorem evOpt_ok {x : Option Operand} {v : Option AV} (e : evOpt fr x = .ok v) : x.map a.eval = v.map (conc ι) ∧ (x = none ↔ v = none) := by
  cases x with
  | none =>
    have e : (E.ok none : E (Option AV)) = .ok v := e
    injection e with e
    subst e
    exact ⟨rfl, by simp⟩
  | some x =>
    obtain ⟨y, h1, h2⟩ := E.bd_eq_ok (show ((evO fr x).bd fun v => E.ok (some v)) = .ok v from e)
    injection h2 with h2
    subst h2
    exact ⟨by simp [(evO_ok hF hG h1).1], by simp⟩
theorem evPs_ok {ps : Array (Nat × Operand)} {vs : List (Nat × AV)} (e : evPs fr ps.toList = .ok vs) :
    (ps.map fun (i, x) => (i, a.eval x)).toList = vs.map (fun p => (p.1, conc ι p.2)) ∧ ∀ p ∈ vs, okV ι h.n p.2 := by
  constructor
  · rw [Array.toList_map]
    refine (mapE_map (g := fun (p : Nat × Operand) => (p.1, a.eval p.2)) (k := fun p => (p.1, conc ι p.2)) (fun p q e => ?_) e).symm
    obtain ⟨y, h1, h2⟩ := E.bd_eq_ok e
    injection h2 with h2
    subst h2
    simp [(evO_ok hF hG h1).1]
  · refine mapE_all (p := fun q => okV ι h.n q.2) (fun p q e => ?_) e
    obtain ⟨y, h1, h2⟩ := E.bd_eq_ok e
    injection h2 with h2
    subst h2
    exact (evO_ok hF hG h1).2
end
theorem val_ok {h : H} {m : E AV} {x : Nx} (e : val h m = .ok x) : ∃ v, m = .ok v ∧ x = .val v h := by
  obtain ⟨v, h1, h2⟩ := E.bd_eq_ok e
  injection h2 with h2
  exact ⟨v, h1, h2.symm⟩
theorem valH_ok {m : E (AV × H)} {x : Nx} (e : valH m = .ok x) : ∃ v h, m = .ok (v, h) ∧ x = .val v h := by
  obtain ⟨v, h, h1, h2⟩ := E.bd2_eq_ok e
  injection h2 with h2
  exact ⟨v, h, h1, h2.symm⟩
theorem unit_ok {m : E H} {x : Nx} (e : unit m = .ok x) : ∃ h, m = .ok h ∧ x = .val (.tup []) h := by
  obtain ⟨h, h1, h2⟩ := E.bd_eq_ok e
  injection h2 with h2
  exact ⟨h, h1, h2.symm⟩
theorem ptrOf_ok {v : AV} {b o : Nat} (e : ptrOf v = .ok (b, o)) : v = .ptr b o := by
  unfold ptrOf at e
  split at e
  · injection e with e; injection e with e1 e2; subst e1 e2; rfl
  · cases e
theorem run_v {P : Program} {w w' : World} {s : Sem Value} {v : Value} (e : s.run P w = .ok v w') : ((do pure (Next.value (← s))) : Sem Next).run P w = .ok (.value v) w' := by
  simp [e, Result.andThen]
theorem run_u {P : Program} {w w' : World} {s : Sem Unit} (e : s.run P w = .ok () w') : ((do s; pure Next.skip) : Sem Next).run P w = .ok .skip w' := by
  simp [e, Result.andThen]
/-- What an operation's outcome stands for. -/
def NxR (P : Program) (B : Nat) (ι : Inj) (h : H) (w : World) (run : Result Next) : Nx → Prop
  | .val v h' => ∃ ι' w' nx, run = .ok nx w' ∧ (nx = .value (conc ι' v) ∨ (nx = .skip ∧ v = .tup [])) ∧ Stp B ι ι' h h' w w' ∧ okV ι' h'.n v
  | .enter f args h' => h' = h ∧ run = (callFunc f (concL ι args).toArray).run P w ∧ okL ι h.n args
  | .round l args h' => h' = h ∧ run = (Instr.yield (ι l).blk (concL ι args).toArray).run P w ∧ okL ι h.n args ∧ l < h.n
section
variable {C : Cx} {P : Program} (hC : CxOk C P) {B : Nat} {ι : Inj} {h : H} {w : World} (hR : R B ι h w) {fr : Fr} {a : Act} {r : Option Nat} (hF : FrR ι h fr a r) (hG : Glob ι h)
include hR
theorem nxR_val {v : AV} {run : Result Next} (e : run = .ok (.value (conc ι v)) w) (hv : okV ι h.n v) : NxR P B ι h w run (.val v h) :=
  ⟨ι, w, _, e, .inl rfl, Stp.refl hR, hv⟩
omit hR in
theorem nxR_step {v : AV} {h' : H} {s : Sem Value} (e : ∃ ι' w', s.run P w = .ok (conc ι' v) w' ∧ Stp B ι ι' h h' w w' ∧ okV ι' h'.n v) : NxR P B ι h w (((do pure (Next.value (← s))) : Sem Next).run P w) (.val v h') := by
  obtain ⟨ι', w', h1, h2, h3⟩ := e
  exact ⟨ι', w', _, run_v h1, .inl rfl, h2, h3⟩
theorem nxR_pure {v : AV} {s : Sem Value} (e : s.run P w = .ok (conc ι v) w ∧ okV ι h.n v) : NxR P B ι h w (((do pure (Next.value (← s))) : Sem Next).run P w) (.val v h) :=
  ⟨ι, w, _, run_v e.1, .inl rfl, Stp.refl hR, e.2⟩
omit hR in
theorem nxR_unit {h' : H} {s : Sem Unit} (e : ∃ w', s.run P w = .ok () w' ∧ Stp B ι ι h h' w w') : NxR P B ι h w (((do s; pure Next.skip) : Sem Next).run P w) (.val (.tup []) h') := by
  obtain ⟨w', h1, h2⟩ := e
  exact ⟨ι, w', _, run_u h1, .inr ⟨rfl, rfl⟩, h2, trivial⟩
include hC hR
theorem biV_ok {b : Builtin} {ats : Array TypeId} {ty : TypeId} {cs : Array Bool} {args : List AV} {v : AV} {h' : H} (hok : okL ι h.n args) (e : biV C b ats.toList args h = .ok (v, h')) :
    ∃ ι' w', (builtin b ats ty cs (concL ι args).toArray).run P w = .ok (.value (conc ι' v)) w' ∧ Stp B ι ι' h h' w w' ∧ okV ι' h'.n v := by
  unfold biV at e
  split at e
  · obtain ⟨ι', w', h1, h2, h3⟩ := appendV_ok hC hR (ty := ty) hok.1 hok.2.1 e
    exact ⟨ι', w', run_v h1, h2, h3⟩
  · obtain ⟨y, h1, h2⟩ := E.bd_eq_ok e
    injection h2 with h2
    injection h2 with h2 h3
    subst h2 h3
    obtain ⟨g1, g2⟩ := lenB_ok hC hR (P := P) (w := w) (ty := ty) h1
    exact ⟨ι, w, run_v g1, Stp.refl hR, g2⟩
  · obtain ⟨t, h1, e1⟩ := E.bd_eq_ok e; clear e
    have h1 := ofOpt_ok h1
    rw [nth_eq, Array.getElem?_toList] at h1
    obtain ⟨u, h2, e2⟩ := E.bd_eq_ok e1; clear e1
    split at e2
    · obtain ⟨y, h3, h4⟩ := E.bd_eq_ok e2
      injection h4 with h4
      injection h4 with h4 h5
      subst h4 h5
      obtain ⟨g1, g2⟩ := capB_ok hC (P := P) (h := h) (ι := ι) (w := w) (ty := ty) h1 h2 h3
      exact ⟨ι, w, run_v g1, Stp.refl hR, g2⟩
    · cases e2
  · obtain ⟨y, h1, h2⟩ := E.bd_eq_ok e
    injection h2 with h2
    injection h2 with h2 h3
    subst h2 h3
    obtain ⟨g1, g2⟩ := extB_ok (P := P) (h := h) (ι := ι) (w := w) true _ _ _ hok.1 h1
    refine ⟨ι, w, run_v ?_, Stp.refl hR, g2⟩
    simpa [Builtin.max_, concL_eq] using g1
  · obtain ⟨y, h1, h2⟩ := E.bd_eq_ok e
    injection h2 with h2
    injection h2 with h2 h3
    subst h2 h3
    obtain ⟨g1, g2⟩ := extB_ok (P := P) (h := h) (ι := ι) (w := w) false _ _ _ hok.1 h1
    refine ⟨ι, w, run_v ?_, Stp.refl hR, g2⟩
    simpa [Builtin.min_, concL_eq] using g1
  · obtain ⟨ι', w', h1, h2, h3⟩ := copyV_ok hC hR (ty := ty) hok.1 hok.2.1 e
    exact ⟨ι', w', run_v h1, h2, h3⟩
  · obtain ⟨y, h1, h2⟩ := E.bd_eq_ok e
    injection h2 with h2
    injection h2 with h2 h3
    subst h2 h3
    obtain ⟨w', g1, g2⟩ := delV_ok hC hR (ty := ty) hok.2.1 h1
    exact ⟨ι, w', run_v g1, g2, trivial⟩
  · obtain ⟨y, h1, h2⟩ := E.bd_eq_ok e
    injection h2 with h2
    injection h2 with h2 h3
    subst h2 h3
    obtain ⟨w', g1, g2⟩ := clearV_ok hC hR (ty := ty) hok.1 h1
    exact ⟨ι, w', run_v g1, g2, trivial⟩
  · cases e
include hF hG
theorem alloc_ok {e : TypeId} {cs : List AV} {x : Nx} (hok : okL ι h.n cs) (e' : newO h (.cells cs e false true false) (fun b h => E.ok (Nx.val (.ptr b 0) h)) = .ok x) :
    ∃ h', x = .val (.ptr h.n 0) h' ∧ ∃ ι', conc ι' (.ptr h.n 0) = .pointer (some ⟨w.heap.size, 0, none⟩) ∧ Stp B ι ι' h h' w (w.alloc (.cells (concL ι cs).toArray e)) ∧ okV ι' h'.n (.ptr h.n 0) := by
  have _ := hC
  have _ := hF
  have _ := hG
  obtain ⟨hh, k1, k2, k3, k4, k5⟩ := newO_ok e'
  injection k1 with k1
  subst k1
  have hst := new_cells (e := e) (op := false) (pu := true) hR k2 k3 k4 k5 hok [] (fun _ => rfl)
  rw [List.append_nil] at hst
  exact ⟨hh, rfl, _, by simp [conc], hst, by show h.n < hh.n; omega⟩
theorem opE_ok {o : Oper} {x : Nx} (e : opE o.op C fr h = .ok x) : NxR P B ι h w ((o.semAt r a.eval).run P w) x := by
  have hsem : Oper.semAt r a.eval o = execOp a.eval o := Oper.semAt_eq _ _ _ fun c hc => by rw [hc] at e; cases e
  rw [hsem]
  unfold execOp
  cases hop : o.op <;> rw [hop] at e <;> try (cases e; done)
  case move y =>
    obtain ⟨v, h1, rfl⟩ := val_ok e
    obtain ⟨g1, g2⟩ := evO_ok hF hG h1
    refine nxR_val hR ?_ g2
    show (pure (Next.value (a.eval y)) : Sem Next).run P w = _
    rw [g1]; rfl
  case assign y =>
    obtain ⟨v, h1, rfl⟩ := val_ok e
    obtain ⟨g1, g2⟩ := evO_ok hF hG h1
    refine nxR_val hR ?_ g2
    show (pure (Next.value (a.eval y)) : Sem Next).run P w = _
    rw [g1]; rfl
  case pick c y z =>
    obtain ⟨cv, h1, e1⟩ := E.bd_eq_ok e; clear e
    obtain ⟨b, h2, e2⟩ := E.bd_eq_ok e1; clear e1
    obtain ⟨v, h3, rfl⟩ := val_ok e2
    obtain ⟨g1, g2⟩ := evO_ok hF hG h1
    have hb : cv = .bool b := by
      unfold boolOf at h2
      split at h2
      · injection h2 with h2; subst h2; rfl
      · cases h2
    subst hb
    cases b
    · simp only [ite'_false] at h3
      obtain ⟨k1, k2⟩ := evO_ok hF hG h3
      refine nxR_val hR ?_ k2
      simp [g1, conc, k1, asBool]
    · simp only [ite'_true] at h3
      obtain ⟨k1, k2⟩ := evO_ok hF hG h3
      refine nxR_val hR ?_ k2
      simp [g1, conc, k1, asBool]
  case alloc el =>
    obtain ⟨z, h1, e1⟩ := E.bd_eq_ok e; clear e
    obtain ⟨z1, z2, z3, _⟩ := zeroV_ok hC h1 ι h.n
    obtain ⟨h', rfl, ι', g1, g2, g3⟩ := alloc_ok hC hR hF hG (okL_cells z2) e1
    refine nxR_step ⟨ι', _, ?_, g2, g3⟩
    unfold Instr.alloc newVar
    simp only [Sem.run_bind, z1, Result.andThen_ok, conc_cells', run_newRow, Sem.run_pure, g1]
  case box el y =>
    obtain ⟨v, h1, e1⟩ := E.bd_eq_ok e; clear e
    obtain ⟨k1, k2⟩ := evO_ok hF hG h1
    obtain ⟨h', rfl, ι', g1, g2, g3⟩ := alloc_ok hC hR hF hG (okL_cells k2) e1
    refine nxR_step ⟨ι', _, ?_, g2, g3⟩
    unfold Instr.box newVar
    simp only [k1, Sem.run_bind, Result.andThen_ok, conc_cells', run_newRow, Sem.run_pure, g1]
  case build t ps =>
    obtain ⟨vs, h1, e1⟩ := E.bd_eq_ok e; clear e
    obtain ⟨v, h2, rfl⟩ := val_ok e1
    obtain ⟨k1, k2⟩ := evPs_ok hF hG h1
    exact nxR_pure hR (buildV_ok hC k1 k2 h2)
  case buildSlice t n ps =>
    obtain ⟨vs, h1, e1⟩ := E.bd_eq_ok e; clear e
    obtain ⟨v, h', h2, rfl⟩ := valH_ok e1
    obtain ⟨k1, k2⟩ := evPs_ok hF hG h1
    exact nxR_step (buildSl_ok hC hR k1 k2 h2)
  case insert t m k y =>
    obtain ⟨mv, h1, e1⟩ := E.bd_eq_ok e; clear e
    obtain ⟨kv, h2, e2⟩ := E.bd_eq_ok e1; clear e1
    obtain ⟨yv, h3, e3⟩ := E.bd_eq_ok e2; clear e2
    obtain ⟨h', h4, rfl⟩ := unit_ok e3
    obtain ⟨a1, a2⟩ := evO_ok hF hG h1
    obtain ⟨b1, b2⟩ := evO_ok hF hG h2
    obtain ⟨c1, c2⟩ := evO_ok hF hG h3
    simp only [a1, b1, c1]
    exact nxR_unit (mapUpd_ok hC hR b2 c2 h4)
  case mapUpdate t m k y =>
    obtain ⟨mv, h1, e1⟩ := E.bd_eq_ok e; clear e
    obtain ⟨kv, h2, e2⟩ := E.bd_eq_ok e1; clear e1
    obtain ⟨yv, h3, e3⟩ := E.bd_eq_ok e2; clear e2
    obtain ⟨h', h4, rfl⟩ := unit_ok e3
    obtain ⟨a1, a2⟩ := evO_ok hF hG h1
    obtain ⟨b1, b2⟩ := evO_ok hF hG h2
    obtain ⟨c1, c2⟩ := evO_ok hF hG h3
    simp only [a1, b1, c1]
    exact nxR_unit (mapUpd_ok hC hR b2 c2 h4)
  case load t y =>
    obtain ⟨av, h1, e1⟩ := E.bd_eq_ok e; clear e
    obtain ⟨b, off, h2, e2⟩ := E.bd2_eq_ok e1; clear e1
    have h2 := ptrOf_ok h2
    subst h2
    obtain ⟨v, h3, rfl⟩ := val_ok e2
    obtain ⟨a1, a2⟩ := evO_ok hF hG h1
    obtain ⟨g1, g2, g3⟩ := loadT_ok (P := P) hC hR h3
    refine nxR_pure hR ⟨?_, g2⟩
    unfold Instr.loadAt
    simp only [a1, conc, Instr.sureAddr, Sem.run_bind, Sem.run_pure, Result.andThen_ok]
    exact g1
  case store t y z =>
    obtain ⟨av, h1, e1⟩ := E.bd_eq_ok e; clear e
    obtain ⟨b, off, h2, e2⟩ := E.bd2_eq_ok e1; clear e1
    have h2 := ptrOf_ok h2
    subst h2
    obtain ⟨v, h3, e3⟩ := E.bd_eq_ok e2; clear e2
    obtain ⟨a1, a2⟩ := evO_ok hF hG h1
    obtain ⟨b1, b2⟩ := evO_ok hF hG h3
    obtain ⟨h', w', k1, k2, k3, k4, k5⟩ := storeT_ok (P := P) hC hR b2 e3
    injection k1 with k1
    subst k1
    refine nxR_unit ⟨w', ?_, k4⟩
    unfold Instr.storeAt
    simp only [a1, b1, conc, Instr.sureAddr, Sem.run_bind, Sem.run_pure, Result.andThen_ok]
    exact k3
  case nilCheck y =>
    obtain ⟨v, h1, e1⟩ := E.bd_eq_ok e; clear e
    obtain ⟨v', h2, rfl⟩ := val_ok e1
    obtain ⟨a1, a2⟩ := evO_ok hF hG h1
    simp only [a1]
    unfold nilChk at h2
    split at h2 <;> try (cases h2; done)
    rename_i n1 n2 n3 n4
    injection h2 with h2
    subst h2
    refine nxR_val hR ?_ a2
    cases v with
    | nilp => exact absurd rfl n1
    | nili => exact absurd rfl n2
    | nilf => exact absurd rfl n3
    | sl b off z len c => cases c <;> rfl
    | func fn f c =>
      cases fn with
      | method name => exact absurd rfl (n4 _ _ _)
      | _ => rfl
    | _ => rfl
  case binOp op t y z t' =>
    obtain ⟨v1, h1, e1⟩ := E.bd_eq_ok e; clear e
    obtain ⟨v2, h2, e2⟩ := E.bd_eq_ok e1; clear e1
    obtain ⟨v, h3, rfl⟩ := val_ok e2
    obtain ⟨a1, a2⟩ := evO_ok hF hG h1
    obtain ⟨b1, b2⟩ := evO_ok hF hG h2
    obtain ⟨g1, g2, g3⟩ := binV_ok hC hR a2 b2 h3
    refine nxR_pure hR ⟨?_, g3⟩
    simp only [a1, b1, Sem.run_bind, g1, Result.andThen_ok]
    exact g2
  case unOp op t y =>
    obtain ⟨v1, h1, e1⟩ := E.bd_eq_ok e; clear e
    obtain ⟨v, h3, rfl⟩ := val_ok e1
    obtain ⟨a1, a2⟩ := evO_ok hF hG h1
    simp only [a1]
    exact nxR_pure hR (unV_ok h3)
  case convert s d y =>
    obtain ⟨v1, h1, e1⟩ := E.bd_eq_ok e; clear e
    obtain ⟨v, h', h3, rfl⟩ := valH_ok e1
    obtain ⟨a1, a2⟩ := evO_ok hF hG h1
    simp only [a1]
    exact nxR_step (convV_ok hC hR a2 h3)
  case makeInterface t y =>
    obtain ⟨v1, h1, e1⟩ := E.bd_eq_ok e; clear e
    obtain ⟨v, h3, rfl⟩ := val_ok e1
    obtain ⟨a1, a2⟩ := evO_ok hF hG h1
    simp only [a1]
    exact nxR_pure hR (mkIface_ok hC a2 h3)
  case makeFunc fn f c =>
    obtain ⟨v1, h1, e1⟩ := E.bd_eq_ok e; clear e
    obtain ⟨v2, h2, e2⟩ := E.bd_eq_ok e1; clear e1
    obtain ⟨hfn, e3⟩ := chk_ok e2; clear e2
    obtain ⟨v, h3, rfl⟩ := val_ok e3
    injection h3 with h3
    subst h3
    obtain ⟨a1, a2⟩ := evOs_ok hF hG h1
    obtain ⟨b1, b2⟩ := evOs_ok hF hG h2
    refine nxR_pure hR ⟨?_, ?_, a2, b2⟩
    · unfold Instr.makeFunc
      simp only [Sem.run_pure, conc]
      congr 2
      · cases fn <;> first | rfl | cases hfn
      · rw [← a1, ← Array.toList_map, Array.toArray_toList]
      · rw [← b1, ← Array.toList_map, Array.toArray_toList]
    · cases fn <;> first | trivial | cases hfn
  case makeMap t rsv =>
    cases rsv with
    | some q => cases e
    | none =>
      obtain ⟨hh, k1, k2, k3, k4, k5⟩ := newO_ok (show newO h (.map [] 0) (fun b h => E.ok (Nx.val (.map b) h)) = .ok x from e)
      injection k1 with k1
      subst k1
      refine nxR_step ⟨_, w.alloc (.map #[] 0), ?_, new_obj hR k2 k3 k4 k5 ⟨alloc_new w _, fun e he => (by cases he)⟩, by show h.n < hh.n; omega⟩
      simp [Instr.makeMap, conc, Result.andThen]
  case makeSlice t l c =>
    obtain ⟨v1, h1, e1⟩ := E.bd_eq_ok e; clear e
    obtain ⟨v2, h2, e2⟩ := E.bd_eq_ok e1; clear e1
    obtain ⟨v, h', h3, rfl⟩ := valH_ok e2
    obtain ⟨a1, a2⟩ := evO_ok hF hG h1
    obtain ⟨b1, b2⟩ := evO_ok hF hG h2
    simp only [a1, b1]
    exact nxR_step (makeSl_ok hC hR h3)
  case slice t y lo hi mx =>
    obtain ⟨v1, h1, e1⟩ := E.bd_eq_ok e; clear e
    obtain ⟨l1, h2, e2⟩ := E.bd_eq_ok e1; clear e1
    obtain ⟨l2, h3, e3⟩ := E.bd_eq_ok e2; clear e2
    obtain ⟨l3, h4, e4⟩ := E.bd_eq_ok e3; clear e3
    obtain ⟨h5, e5⟩ := chk_ok e4; clear e4
    obtain ⟨v, h6, rfl⟩ := val_ok e5
    obtain ⟨a1, a2⟩ := evO_ok hF hG h1
    obtain ⟨b1, _⟩ := evOpt_ok hF hG h2
    obtain ⟨c1, _⟩ := evOpt_ok hF hG h3
    obtain ⟨d1, _⟩ := evOpt_ok hF hG h4
    simp only [a1, b1, c1, d1]
    refine nxR_pure hR (sliceV_ok hC hR a2 (fun hn => ?_) h6)
    subst hn
    cases l3 with
    | none => rfl
    | some q => cases h5
  case fieldAddr t y f =>
    obtain ⟨v1, h1, e1⟩ := E.bd_eq_ok e; clear e
    obtain ⟨v, h3, rfl⟩ := val_ok e1
    obtain ⟨a1, a2⟩ := evO_ok hF hG h1
    simp only [a1]
    exact nxR_pure hR (fieldA_ok hC a2 h3)
  case field t y f =>
    obtain ⟨v1, h1, e1⟩ := E.bd_eq_ok e; clear e
    obtain ⟨v, h3, rfl⟩ := val_ok e1
    obtain ⟨a1, a2⟩ := evO_ok hF hG h1
    simp only [a1]
    exact nxR_pure hR (fieldV_ok hC a2 h3)
  case indexAddr t y i =>
    obtain ⟨v1, h1, e1⟩ := E.bd_eq_ok e; clear e
    obtain ⟨v2, h2, e2⟩ := E.bd_eq_ok e1; clear e1
    obtain ⟨v, h3, rfl⟩ := val_ok e2
    obtain ⟨a1, a2⟩ := evO_ok hF hG h1
    obtain ⟨b1, b2⟩ := evO_ok hF hG h2
    simp only [a1, b1]
    exact nxR_pure hR (idxAddr_ok hC a2 h3)
  case index t y i =>
    obtain ⟨v1, h1, e1⟩ := E.bd_eq_ok e; clear e
    obtain ⟨v2, h2, e2⟩ := E.bd_eq_ok e1; clear e1
    obtain ⟨v, h3, rfl⟩ := val_ok e2
    obtain ⟨a1, a2⟩ := evO_ok hF hG h1
    obtain ⟨b1, b2⟩ := evO_ok hF hG h2
    simp only [a1, b1]
    exact nxR_pure hR (idxV_ok hC a2 h3)
  case lookup t y i ok =>
    obtain ⟨v1, h1, e1⟩ := E.bd_eq_ok e; clear e
    obtain ⟨v2, h2, e2⟩ := E.bd_eq_ok e1; clear e1
    obtain ⟨v, h3, rfl⟩ := val_ok e2
    obtain ⟨a1, a2⟩ := evO_ok hF hG h1
    obtain ⟨b1, b2⟩ := evO_ok hF hG h2
    simp only [a1, b1]
    exact nxR_pure hR (lookV_ok hC hR b2 h3)
  case range t y =>
    obtain ⟨v1, h1, e1⟩ := E.bd_eq_ok e; clear e
    obtain ⟨v, h', h3, rfl⟩ := valH_ok e1
    obtain ⟨a1, a2⟩ := evO_ok hF hG h1
    simp only [a1]
    exact nxR_step (rangeV_ok hC hR a2 h3)
  case next y b =>
    obtain ⟨v1, h1, e1⟩ := E.bd_eq_ok e; clear e
    obtain ⟨v, h', h3, rfl⟩ := valH_ok e1
    obtain ⟨a1, a2⟩ := evO_ok hF hG h1
    simp only [a1]
    obtain ⟨w', g1, g2, g3⟩ := nextV_ok hR (P := P) (t := o.type) h3
    exact nxR_step ⟨ι, w', g1, g2, g3⟩
  case typeAssert y xt t ok =>
    obtain ⟨v1, h1, e1⟩ := E.bd_eq_ok e; clear e
    obtain ⟨v, h3, rfl⟩ := val_ok e1
    obtain ⟨a1, a2⟩ := evO_ok hF hG h1
    simp only [a1]
    exact nxR_pure hR (assertV_ok hC a2 h3)
  case extract y i =>
    obtain ⟨v1, h1, e1⟩ := E.bd_eq_ok e; clear e
    obtain ⟨v, h3, rfl⟩ := val_ok e1
    obtain ⟨a1, a2⟩ := evO_ok hF hG h1
    simp only [a1]
    exact nxR_pure hR (extrV_ok a2 h3)
  case call c =>
    obtain ⟨vs, h1, e1⟩ := E.bd_eq_ok e; clear e
    obtain ⟨a1, a2⟩ := evOs_ok hF hG h1
    have hargs : c.args.map a.eval = (concL ι vs).toArray := by
      rw [← a1, ← Array.toList_map, Array.toArray_toList]
    obtain ⟨callee, args, ats⟩ := c
    cases callee with
    | builtin b =>
      obtain ⟨v, h', h3, rfl⟩ := valH_ok e1
      obtain ⟨ι', w', g1, g2, g3⟩ := biV_ok hC hR (ty := o.type) (cs := args.map fun | .const _ => true | _ => false) a2 h3
      refine ⟨ι', w', _, ?_, .inl rfl, g2, g3⟩
      simp only [resolve, Sem.run_bind, Sem.run_pure, Result.andThen_ok, invoke]
      simp only at hargs
      rw [hargs]
      exact g1
    | invoke q1 q2 => cases e1
    | value f =>
      obtain ⟨fv, h2, e2⟩ := E.bd_eq_ok e1; clear e1
      obtain ⟨b1, b2⟩ := evO_ok hF hG h2
      simp only at hargs
      unfold callV at e2
      split at e2
      · rename_i g first cap
        injection e2 with e2
        subst e2
        refine ⟨rfl, ?_, okL_append.2 ⟨okL_append.2 ⟨b2.2.1, a2⟩, b2.2.2⟩⟩
        simp only [resolve, b1, conc, concFn, Deferred.ofValue, Sem.run_bind, Sem.run_pure, Result.andThen_ok, invoke, hargs, concL_append]
        simp
      · rename_i l first cap
        injection e2 with e2
        subst e2
        refine ⟨rfl, ?_, okL_append.2 ⟨b2.2.1, a2⟩, b2.1⟩
        simp only [resolve, b1, conc, concFn, Deferred.ofValue, Sem.run_bind, Sem.run_pure, Result.andThen_ok, invoke, hargs, concL_append]
        simp
      · cases e2
end
end Go.Eng
