/- The abstract evaluator, soundness 16: operations that leave the world alone. -/
import Derived.Test.YtbbojdjgabdjmaaGreatDoorEngAll
import Derived.OrdersIn
namespace Go.Eng
open Go Go.RowKit

/-- Does an operation leave the heap alone? -/
noncomputable def lightE (C : Cx) (o : Op) : Bool := match o with
  | .move _ => true
  | .assign _ => true
  | .pick _ _ _ => true
  | .build _ _ => true
  | .load _ _ => true
  | .nilCheck _ => true
  | .binOp _ _ _ _ _ => true
  | .unOp _ _ _ => true
  | .makeInterface _ _ => true
  | .makeFunc _ _ _ => true
  | .slice _ _ _ _ _ => true
  | .fieldAddr _ _ _ => true
  | .field _ _ _ => true
  | .indexAddr _ _ _ => true
  | .index _ _ _ => true
  | .lookup _ _ _ _ => true
  | .typeAssert _ _ _ _ => true
  | .extract _ _ => true
  | .convert _ d _ => E.rec (motive := fun _ => Bool) (fun u => match u with | .slice _ => false | _ => true) (fun _ => false) (und C d)
  | .call c => (match c.callee with
    | .builtin b => (match b with | .len => true | .cap => true | .max => true | .min => true | _ => false)
    | _ => false)
  | _ => false
/-- Does it not even look at the heap? -/
noncomputable def blindE (o : Op) : Bool := match o with
  | .move _ => true
  | .assign _ => true
  | .pick _ _ _ => true
  | .build _ _ => true
  | .nilCheck _ => true
  | .binOp op _ _ _ _ => (match op with | .eql => false | .neq => false | _ => true)
  | .unOp _ _ _ => true
  | .makeInterface _ _ => true
  | .makeFunc _ _ _ => true
  | .fieldAddr _ _ _ => true
  | .field _ _ _ => true
  | .indexAddr _ _ _ => true
  | .index _ _ _ => true
  | .typeAssert _ _ _ _ => true
  | .extract _ _ => true
  | _ => false
def NxL (_ : Program) (ι : Inj) (h : H) (w : World) (run : Result Next) (x : Nx) : Prop := ∃ v, x = .val v h ∧ run = .ok (.value (conc ι v)) w ∧ okV ι h.n v
theorem nxL_val {P : Program} {ι : Inj} {h : H} {w : World} {v : AV} {run : Result Next} (e : run = .ok (.value (conc ι v)) w) (hv : okV ι h.n v) : NxL P ι h w run (.val v h) :=
  ⟨v, rfl, e, hv⟩
theorem nxL_pure {P : Program} {ι : Inj} {h : H} {w : World} {v : AV} {s : Sem Value} (e : s.run P w = .ok (conc ι v) w ∧ okV ι h.n v) : NxL P ι h w (((do pure (Next.value (← s))) : Sem Next).run P w) (.val v h) :=
  ⟨v, rfl, run_v e.1, e.2⟩
section
variable {C : Cx} {P : Program} (hC : CxOk C P) {B : Nat} {ι : Inj} {h : H} {w : World} (hR : R B ι h w) {fr : Fr} {a : Act} {r : Option Nat} (hF : FrR ι h fr a r) (hG : Glob ι h)
include hC hR
theorem convL_ok {s t : TypeId} {x v : AV} {h' : H} (hx : okV ι h.n x) (hl : E.rec (motive := fun _ => Bool) (fun u => match u with | .slice _ => false | _ => true) (fun _ => false) (und C t) = true) (e : convV C s t x h = .ok (v, h')) :
    NxL P ι h w (((do pure (Next.value (← convert s t (conc ι x)))) : Sem Next).run P w) (.val v h') := by
  obtain ⟨us, h1, e1⟩ := E.bd_eq_ok e; clear e
  obtain ⟨ud, h2, e2⟩ := E.bd_eq_ok e1; clear e1
  have r1 := run_und hC h1 w
  have r2 := run_und hC h2 w
  rw [h2] at hl
  split at e2
  · obtain ⟨a, g1, g2⟩ := E.bd_eq_ok e2
    have g1 := mkI_ok g1
    injection g2 with g2
    injection g2 with g2 g3
    subst g2 g3 g1
    refine nxL_pure ⟨?_, trivial⟩
    unfold convert
    simp only [Sem.run_bind, r1, r2, Result.andThen_ok, conc]
    rfl
  · injection e2 with e2
    injection e2 with e1 e2
    subst e1 e2
    refine nxL_pure ⟨?_, hx⟩
    unfold convert
    simp only [Sem.run_bind, r1, r2, Result.andThen_ok, conc]
    cases us <;> rfl
  · cases hl
  · rename TypeId => el
    obtain ⟨ue, h3, e3⟩ := E.bd_eq_ok e2; clear e2
    have r3 := run_und hC h3 w
    split at e3
    case h_2 => cases e3
    injection e3 with e3
    injection e3 with e1 e2
    subst e1 e2
    refine nxL_pure ⟨?_, fun b hb => by cases hb⟩
    unfold convert
    simp only [Sem.run_bind, r1, r2, Result.andThen_ok, conc, r3]
    rfl
  · rename_i el b off zz len c
    obtain ⟨ue, h3, e3⟩ := E.bd_eq_ok e2; clear e2
    have r3 := run_und hC h3 w
    split at e3
    case h_2 => cases e3
    obtain ⟨cs, h4, e4⟩ := E.bd_eq_ok e3; clear e3
    obtain ⟨l, h5, e5⟩ := E.bd_eq_ok e4; clear e4
    injection e5 with e5
    injection e5 with e1 e2
    subst e1 e2
    obtain ⟨ns, n1, n2, n3⟩ := bytes_of h5
    refine nxL_pure ⟨?_, n3⟩
    have hcv : ∃ a cc, conc ι (.sl b off zz len c) = .slice (some a) len cc ∧ (loadCells a len).run P w = .ok (ns.map (Value.int .u8)).toArray w := by
      have hmap : concL ι cs = ns.map (Value.int .u8) := by rw [n1, concL_eq, List.map_map]; rfl
      by_cases hl0 : len = 0
      · rw [beq_t hl0] at h4
        simp only [ite'_true] at h4
        injection h4 with h4; subst h4
        subst hl0
        have : ns = [] := by simpa using n1.symm
        subst this
        cases c <;> exact ⟨_, _, rfl, rfl⟩
      · rw [beq_f hl0] at h4
        simp only [ite'_false] at h4
        obtain ⟨g1, g2, g3, _⟩ := loadN_ok (P := P) hR h4
        rw [hmap] at g1
        cases c with
        | kn c => exact ⟨_, _, rfl, g1⟩
        | op s' =>
          have hs0 : 0 < s' := hx.2.1
          have h0' : off + len * s' ≤ (ι b).cap := hx.2.2
          have : s' ≤ len * s' := Nat.le_mul_of_pos_left _ (by omega)
          have : ¬ ((ι b).cap - off) / s' = 0 := by
            have := Nat.div_pos (show s' ≤ (ι b).cap - off by omega) hs0
            omega
          refine ⟨_, _, rfl, ?_⟩
          rw [if_neg this]
          exact g1
        | zc s' => exact absurd hx.2.2 hl0
    obtain ⟨a, cc, hda, hload⟩ := hcv
    rw [hda, run_convert_bytes_string w s t el _ _ _ (und_ok hC h1) (und_ok hC h3) (und_ok hC h2), run_bytesToString w a len cc ns hload, foldl_push, n2]
    congr 2
  · cases e2
theorem biL_ok {b : Builtin} {ats : Array TypeId} {ty : TypeId} {cs : Array Bool} {args : List AV} {v : AV} {h' : H} (hok : okL ι h.n args)
    (hl : (match b with | .len => true | .cap => true | .max => true | .min => true | _ => false) = true) (e : biV C b ats.toList args h = .ok (v, h')) :
    h' = h ∧ (builtin b ats ty cs (concL ι args).toArray).run P w = .ok (.value (conc ι v)) w ∧ okV ι h.n v := by
  unfold biV at e
  split at e
  · cases hl
  · obtain ⟨y, h1, h2⟩ := E.bd_eq_ok e
    injection h2 with h2
    injection h2 with h2 h3
    subst h2 h3
    obtain ⟨g1, g2⟩ := lenB_ok hC hR (P := P) (w := w) (ty := ty) h1
    exact ⟨rfl, run_v g1, g2⟩
  · obtain ⟨t, h1, e1⟩ := E.bd_eq_ok e; clear e
    have h1 := ofOpt_ok h1
    rw [nth_eq, Array.getElem?_toList] at h1
    obtain ⟨u, h2, e2⟩ := E.bd_eq_ok e1; clear e1
    split at e2
    · obtain ⟨y, h3, h4⟩ := E.bd_eq_ok e2
      injection h4 with h4
      injection h4 with h4 h5
      subst h4 h5
      obtain ⟨g1, g2⟩ := capB_ok hC (P := P) (h := h) (ι := ι) (w := w) (ty := ty) h1 h2 h3
      exact ⟨rfl, run_v g1, g2⟩
    · cases e2
  · obtain ⟨y, h1, h2⟩ := E.bd_eq_ok e
    injection h2 with h2
    injection h2 with h2 h3
    subst h2 h3
    obtain ⟨g1, g2⟩ := extB_ok (P := P) (h := h) (ι := ι) (w := w) true _ _ _ hok.1 h1
    refine ⟨rfl, run_v ?_, g2⟩
    simpa [Builtin.max_, concL_eq] using g1
  · obtain ⟨y, h1, h2⟩ := E.bd_eq_ok e
    injection h2 with h2
    injection h2 with h2 h3
    subst h2 h3
    obtain ⟨g1, g2⟩ := extB_ok (P := P) (h := h) (ι := ι) (w := w) false _ _ _ hok.1 h1
    refine ⟨rfl, run_v ?_, g2⟩
    simpa [Builtin.min_, concL_eq] using g1
  · cases hl
  · cases hl
  · cases hl
  · cases e
include hF hG
theorem opL_ok {o : Oper} {x : Nx} (hl : lightE C o.op = true) (e : opE o.op C fr h = .ok x) : NxL P ι h w ((execOp a.eval o).run P w) x := by
  unfold execOp
  cases hop : o.op <;> rw [hop] at e hl <;> try (cases hl; done)
  case move y =>
    obtain ⟨v, h1, rfl⟩ := val_ok e
    obtain ⟨g1, g2⟩ := evO_ok hF hG h1
    refine nxL_val ?_ g2
    show (pure (Next.value (a.eval y)) : Sem Next).run P w = _
    rw [g1]; rfl
  case assign y =>
    obtain ⟨v, h1, rfl⟩ := val_ok e
    obtain ⟨g1, g2⟩ := evO_ok hF hG h1
    refine nxL_val ?_ g2
    show (pure (Next.value (a.eval y)) : Sem Next).run P w = _
    rw [g1]; rfl
  case pick c y z =>
    obtain ⟨cv, h1, e1⟩ := E.bd_eq_ok e; clear e
    obtain ⟨b, h2, e2⟩ := E.bd_eq_ok e1; clear e1
    obtain ⟨v, h3, rfl⟩ := val_ok e2
    obtain ⟨g1, g2⟩ := evO_ok hF hG h1
    have hb : cv = .bool b := by
      unfold boolOf at h2
      split at h2
      · injection h2 with h2; subst h2; rfl
      · cases h2
    subst hb
    cases b
    · simp only [ite'_false] at h3
      obtain ⟨k1, k2⟩ := evO_ok hF hG h3
      refine nxL_val ?_ k2
      simp [g1, conc, k1, asBool]
    · simp only [ite'_true] at h3
      obtain ⟨k1, k2⟩ := evO_ok hF hG h3
      refine nxL_val ?_ k2
      simp [g1, conc, k1, asBool]
  case build t ps =>
    obtain ⟨vs, h1, e1⟩ := E.bd_eq_ok e; clear e
    obtain ⟨v, h2, rfl⟩ := val_ok e1
    obtain ⟨k1, k2⟩ := evPs_ok hF hG h1
    exact nxL_pure (buildV_ok hC k1 k2 h2)
  case load t y =>
    obtain ⟨av, h1, e1⟩ := E.bd_eq_ok e; clear e
    obtain ⟨b, off, h2, e2⟩ := E.bd2_eq_ok e1; clear e1
    have h2 := ptrOf_ok h2
    subst h2
    obtain ⟨v, h3, rfl⟩ := val_ok e2
    obtain ⟨a1, a2⟩ := evO_ok hF hG h1
    obtain ⟨g1, g2, g3⟩ := loadT_ok (P := P) hC hR h3
    refine nxL_pure ⟨?_, g2⟩
    unfold Instr.loadAt
    simp only [a1, conc, Instr.sureAddr, Sem.run_bind, Sem.run_pure, Result.andThen_ok]
    exact g1
  case nilCheck y =>
    obtain ⟨v, h1, e1⟩ := E.bd_eq_ok e; clear e
    obtain ⟨v', h2, rfl⟩ := val_ok e1
    obtain ⟨a1, a2⟩ := evO_ok hF hG h1
    simp only [a1]
    unfold nilChk at h2
    split at h2 <;> try (cases h2; done)
    rename_i n1 n2 n3 n4
    injection h2 with h2
    subst h2
    refine nxL_val ?_ a2
    cases v with
    | nilp => exact absurd rfl n1
    | nili => exact absurd rfl n2
    | nilf => exact absurd rfl n3
    | sl b off z len c => cases c <;> rfl
    | func fn f c =>
      cases fn with
      | method name => exact absurd rfl (n4 _ _ _)
      | _ => rfl
    | _ => rfl
  case binOp op t y z t' =>
    obtain ⟨v1, h1, e1⟩ := E.bd_eq_ok e; clear e
    obtain ⟨v2, h2, e2⟩ := E.bd_eq_ok e1; clear e1
    obtain ⟨v, h3, rfl⟩ := val_ok e2
    obtain ⟨a1, a2⟩ := evO_ok hF hG h1
    obtain ⟨b1, b2⟩ := evO_ok hF hG h2
    obtain ⟨g1, g2, g3⟩ := binV_ok hC hR a2 b2 h3
    refine nxL_pure ⟨?_, g3⟩
    simp only [a1, b1, Sem.run_bind, g1, Result.andThen_ok]
    exact g2
  case unOp op t y =>
    obtain ⟨v1, h1, e1⟩ := E.bd_eq_ok e; clear e
    obtain ⟨v, h3, rfl⟩ := val_ok e1
    obtain ⟨a1, a2⟩ := evO_ok hF hG h1
    simp only [a1]
    exact nxL_pure (unV_ok h3)
  case makeInterface t y =>
    obtain ⟨v1, h1, e1⟩ := E.bd_eq_ok e; clear e
    obtain ⟨v, h3, rfl⟩ := val_ok e1
    obtain ⟨a1, a2⟩ := evO_ok hF hG h1
    simp only [a1]
    exact nxL_pure (mkIface_ok hC a2 h3)
  case makeFunc fn f c =>
    obtain ⟨v1, h1, e1⟩ := E.bd_eq_ok e; clear e
    obtain ⟨v2, h2, e2⟩ := E.bd_eq_ok e1; clear e1
    obtain ⟨hfn, e3⟩ := chk_ok e2; clear e2
    obtain ⟨v, h3, rfl⟩ := val_ok e3
    injection h3 with h3
    subst h3
    obtain ⟨a1, a2⟩ := evOs_ok hF hG h1
    obtain ⟨b1, b2⟩ := evOs_ok hF hG h2
    refine nxL_pure ⟨?_, ?_, a2, b2⟩
    · unfold Instr.makeFunc
      simp only [Sem.run_pure, conc]
      congr 2
      · cases fn <;> first | rfl | cases hfn
      · rw [← a1, ← Array.toList_map, Array.toArray_toList]
      · rw [← b1, ← Array.toList_map, Array.toArray_toList]
    · cases fn <;> first | trivial | cases hfn
  case slice t y lo hi mx =>
    obtain ⟨v1, h1, e1⟩ := E.bd_eq_ok e; clear e
    obtain ⟨l1, h2, e2⟩ := E.bd_eq_ok e1; clear e1
    obtain ⟨l2, h3, e3⟩ := E.bd_eq_ok e2; clear e2
    obtain ⟨l3, h4, e4⟩ := E.bd_eq_ok e3; clear e3
    obtain ⟨h5, e5⟩ := chk_ok e4; clear e4
    obtain ⟨v, h6, rfl⟩ := val_ok e5
    obtain ⟨a1, a2⟩ := evO_ok hF hG h1
    obtain ⟨b1, _⟩ := evOpt_ok hF hG h2
    obtain ⟨c1, _⟩ := evOpt_ok hF hG h3
    obtain ⟨d1, _⟩ := evOpt_ok hF hG h4
    simp only [a1, b1, c1, d1]
    refine nxL_pure (sliceV_ok hC hR a2 (fun hn => ?_) h6)
    subst hn
    cases l3 with
    | none => rfl
    | some q => cases h5
  case fieldAddr t y f =>
    obtain ⟨v1, h1, e1⟩ := E.bd_eq_ok e; clear e
    obtain ⟨v, h3, rfl⟩ := val_ok e1
    obtain ⟨a1, a2⟩ := evO_ok hF hG h1
    simp only [a1]
    exact nxL_pure (fieldA_ok hC a2 h3)
  case field t y f =>
    obtain ⟨v1, h1, e1⟩ := E.bd_eq_ok e; clear e
    obtain ⟨v, h3, rfl⟩ := val_ok e1
    obtain ⟨a1, a2⟩ := evO_ok hF hG h1
    simp only [a1]
    exact nxL_pure (fieldV_ok hC a2 h3)
  case indexAddr t y i =>
    obtain ⟨v1, h1, e1⟩ := E.bd_eq_ok e; clear e
    obtain ⟨v2, h2, e2⟩ := E.bd_eq_ok e1; clear e1
    obtain ⟨v, h3, rfl⟩ := val_ok e2
    obtain ⟨a1, a2⟩ := evO_ok hF hG h1
    obtain ⟨b1, b2⟩ := evO_ok hF hG h2
    simp only [a1, b1]
    exact nxL_pure (idxAddr_ok hC a2 h3)
  case index t y i =>
    obtain ⟨v1, h1, e1⟩ := E.bd_eq_ok e; clear e
    obtain ⟨v2, h2, e2⟩ := E.bd_eq_ok e1; clear e1
    obtain ⟨v, h3, rfl⟩ := val_ok e2
    obtain ⟨a1, a2⟩ := evO_ok hF hG h1
    obtain ⟨b1, b2⟩ := evO_ok hF hG h2
    simp only [a1, b1]
    exact nxL_pure (idxV_ok hC a2 h3)
  case lookup t y i ok =>
    obtain ⟨v1, h1, e1⟩ := E.bd_eq_ok e; clear e
    obtain ⟨v2, h2, e2⟩ := E.bd_eq_ok e1; clear e1
    obtain ⟨v, h3, rfl⟩ := val_ok e2
    obtain ⟨a1, a2⟩ := evO_ok hF hG h1
    obtain ⟨b1, b2⟩ := evO_ok hF hG h2
    simp only [a1, b1]
    exact nxL_pure (lookV_ok hC hR b2 h3)
  case typeAssert y xt t ok =>
    obtain ⟨v1, h1, e1⟩ := E.bd_eq_ok e; clear e
    obtain ⟨v, h3, rfl⟩ := val_ok e1
    obtain ⟨a1, a2⟩ := evO_ok hF hG h1
    simp only [a1]
    exact nxL_pure (assertV_ok hC a2 h3)
  case extract y i =>
    obtain ⟨v1, h1, e1⟩ := E.bd_eq_ok e; clear e
    obtain ⟨v, h3, rfl⟩ := val_ok e1
    obtain ⟨a1, a2⟩ := evO_ok hF hG h1
    simp only [a1]
    exact nxL_pure (extrV_ok a2 h3)
  case convert s d y =>
    obtain ⟨v1, h1, e1⟩ := E.bd_eq_ok e; clear e
    obtain ⟨v, h', h3, rfl⟩ := valH_ok e1
    obtain ⟨a1, a2⟩ := evO_ok hF hG h1
    simp only [a1]
    exact convL_ok hC hR a2 hl h3
  case call c =>
    obtain ⟨vs, h1, e1⟩ := E.bd_eq_ok e; clear e
    obtain ⟨a1, a2⟩ := evOs_ok hF hG h1
    have hargs : c.args.map a.eval = (concL ι vs).toArray := by
      rw [← a1, ← Array.toList_map, Array.toArray_toList]
    obtain ⟨callee, args, ats⟩ := c
    cases callee with
    | builtin b =>
      obtain ⟨v, h', h3, rfl⟩ := valH_ok e1
      obtain ⟨g0, g1, g2⟩ := biL_ok hC hR (P := P) (ty := o.type) (cs := args.map fun | .const _ => true | _ => false) a2 hl h3
      subst g0
      refine ⟨v, rfl, ?_, g2⟩
      simp only [resolve, Sem.run_bind, Sem.run_pure, Result.andThen_ok, invoke]
      simp only at hargs
      rw [hargs]
      exact g1
    | invoke q1 q2 => cases e1
    | value f => cases hl
end
end Go.Eng
