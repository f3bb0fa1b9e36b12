/- The abstract evaluator, soundness 13: calls. -/
import Derived.Test.YtbbojdjgabdjmaaGreatDoorEngCode2
import Derived.RangeFuncRecord
import Derived.RangeFuncLeaves
namespace Go.Eng
open Go Go.RowKit

theorem argsT_ok {γ : Type} : ∀ (args : List AV) (i : Nat) (t : T3 AV) (k : T3 AV → E γ) (q : γ), i + args.length ≤ 512 → argsT args i t k = .ok q →
    ∃ t', k t' = .ok q ∧ ∀ j, j < 512 → T3.get t' j = if i ≤ j ∧ j < i + args.length then args.getD (j - i) (.tup []) else T3.get t j := by
  intro args
  induction args with
  | nil =>
    intro i t k q _ e
    exact ⟨t, e, fun j _ => by rw [if_neg (by simp)]⟩
  | cons v args ih =>
    intro i t k q hle e
    simp only [List.length_cons] at hle
    obtain ⟨t1, g1, g2⟩ := T3.set_eq (i := i) (by omega) t v fun t => fN (i + 1) fun i => nx (argsT args i t k)
    have e1 : fN (i + 1) (fun i => nx (argsT args i t1 k)) = .ok q := by rw [← g1]; exact e
    rw [fN_eq, nx_eq] at e1
    obtain ⟨t', k1, k2⟩ := ih (i + 1) t1 k q (by omega) e1
    refine ⟨t', k1, fun j hj => ?_⟩
    rw [k2 j hj, g2 j hj]
    simp only [List.length_cons]
    by_cases h1 : j = i
    · subst h1
      rw [if_neg (by omega), if_pos rfl, if_pos (by omega)]
      simp
    · by_cases h2 : i + 1 ≤ j ∧ j < i + 1 + args.length
      · rw [if_pos h2, if_pos (by omega), show j - i = (j - (i + 1)) + 1 by omega]
        simp
      · rw [if_neg h2, if_neg h1, if_neg (by omega)]
theorem enter_tmps {ι : Inj} {m n : Nat} {args : List AV} {t : T3 AV} (hn : n ≤ 512) (hle : args.length ≤ n) (hok : okL ι m args)
    (ht : ∀ j, j < 512 → T3.get t j = if 0 ≤ j ∧ j < 0 + args.length then args.getD (j - 0) (.tup []) else T3.get emp j) :
    Tmps ι m n t ((concL ι args).toArray ++ Array.replicate (n - (concL ι args).toArray.size) undef) := by
  refine ⟨hn, by simp; omega, fun i hi => ?_⟩
  rw [ht i (by omega)]
  by_cases h : i < args.length
  · rw [if_pos (by omega), Nat.sub_zero, Array.getElem?_append_left (by simpa using h)]
    have hv : args[i]? = some (args[i]'h) := List.getElem?_eq_getElem h
    rw [List.getD_eq_getElem?_getD, hv]
    refine ⟨?_, okL_get hok hv⟩
    simp [concL_eq, hv]
  · rw [if_neg (by omega), show T3.get emp i = .tup [] from T3.get_rep _ (by omega), Array.getElem?_append_right (by simpa using Nat.le_of_not_lt h)]
    refine ⟨?_, trivial⟩
    rw [Array.getElem?_replicate, if_pos (by simp; omega)]
    rfl

def resS (tmps : Array Value) (q : ResultVar) : Sem Value :=
  match q with
  | .tmp t => pure (tmps.getD t undef)
  | .cell c t => do loadVar t (← asAddr (tmps.getD c undef))
section
variable {C : Cx} {P : Program} (hC : CxOk C P)
include hC
theorem resV_ok {B : Nat} {ι : Inj} {h : H} {w : World} {fr : Fr} {a : Act} {r : Option Nat} (hR : R B ι h w) (hF : FrR ι h fr a r) (hG : Glob ι h) {q : ResultVar} {v : AV} (e : resV C q fr h = .ok v) :
    (resS a.tmps q).run P w = .ok (conc ι v) w ∧ okV ι h.n v := by
  cases q with
  | tmp t =>
    obtain ⟨g1, g2⟩ := evO_ok hF hG (show evO fr (.tmp t) = .ok v from e)
    refine ⟨?_, g2⟩
    show (pure (a.tmps.getD t undef) : Sem Value).run P w = _
    rw [show a.tmps.getD t undef = conc ι v from g1]
    rfl
  | cell c t =>
    obtain ⟨p, h1, e1⟩ := E.bd_eq_ok (show ((evO fr (.tmp c)).bd fun p => (ptrOf p).bd2 fun b o => loadT C t b o h) = .ok v from e)
    obtain ⟨b, o, h2, h3⟩ := E.bd2_eq_ok e1
    have h2 := ptrOf_ok h2
    subst h2
    obtain ⟨g1, g2⟩ := evO_ok hF hG h1
    obtain ⟨k1, k2, _⟩ := loadT_ok (P := P) hC hR h3
    refine ⟨?_, k2⟩
    show (do loadVar t (← asAddr (a.tmps.getD c undef)) : Sem Value).run P w = _
    rw [show a.tmps.getD c undef = conc ι (.ptr b o) from g1]
    simp only [conc, asAddr, Sem.run_bind, Sem.run_pure, Result.andThen_ok]
    exact k1

omit hC in
noncomputable def shutV (defs : List Nat) : H → E H :=
  List.rec (motive := fun _ => H → E H) (fun h => .ok h) (fun b _ ih h => (getO h b).bd fun o => match o with | .dfr => setO h b .dead fun h => nx (ih h) | _ => .err [237]) defs
omit hC in
theorem marks_ok {B : Nat} {ι : Inj} {F : Fence} {n : Nat} {fn : Func} {tmps : Array Value} {Q : Ending → World → Prop} : ∀ (defs : List Nat) (h h2 : H) (w : World), R B ι h w → shutV defs h = .ok h2 →
    (∀ w2, Stp B ι ι h h2 w w2 → LeavesIn F n P fn tmps Q [] .returning w2) → LeavesInM F n P fn tmps Q (defs.map fun b => { target := .collected (ι b).blk, args := #[] }) .returning w := by
  intro defs
  induction defs with
  | nil =>
    intro h h2 w hR e hk
    have e : (E.ok h : E H) = .ok h2 := e
    injection e with e
    subst e
    exact hk w (Stp.refl hR)
  | cons b defs ih =>
    intro h h2 w hR e hk
    obtain ⟨o, h1, e1⟩ := E.bd_eq_ok (show ((getO h b).bd fun o => match o with | .dfr => setO h b .dead fun h => nx (shutV defs h) | _ => .err [237]) = .ok h2 from e)
    obtain ⟨g1, g2⟩ := getO_ok h1
    split at e1
    case h_2 => cases e1
    obtain ⟨hh, m1, m2, m3, m4, m5⟩ := setO_ok hR.n e1
    have ho := hR.obj b g1
    rw [g2] at ho
    have ho : w.heap[(ι b).blk]? = some (.deferred (some [])) := ho
    have hS : Stp B ι ι h hh w { w with heap := w.heap.setIfInBounds (ι b).blk (.deferred none) } := Stp.of_put (.deferred none) hR g1 m3 m5 (by rw [g2]; rfl) (by rw [m4]; trivial)
    refine ⟨by simp, .inl ⟨(ι b).blk, _, rfl, run_takeDeferred ho, ?_⟩⟩
    exact ih hh h2 _ hS.rel m1 fun w2 hS2 => hk w2 (hS.trans hS2)

omit hC in
theorem run_mapE {α : Type} {ι : Inj} {w : World} {f : α → Sem Value} {g : α → E AV} (hf : ∀ q v, g q = .ok v → (f q).run P w = .ok (conc ι v) w) : ∀ (l : List α) (vs : List AV), mapE g l = .ok vs → (l.mapM f).run P w = .ok (concL ι vs) w := by
  intro l
  induction l with
  | nil => intro vs e; injection e with e; subst e; rfl
  | cons q l ih =>
    intro vs e
    rw [mapE_cons] at e
    obtain ⟨b, h1, h2⟩ := E.bd_eq_ok e
    obtain ⟨bs, h3, h4⟩ := E.bd_eq_ok h2
    injection h4 with h4
    subst h4
    simp [List.mapM_cons, hf q b h1, ih bs h3, Result.andThen, concL]
theorem leave_ok {B : Nat} {ι : Inj} {h h' : H} {w : World} {fr : Fr} {a : Act} {r : Option Nat} {fn : Func} {v : AV} {n : Nat} {F : Fence} {Q : Ending → World → Prop} (hR : R B ι h w) (hF : FrR ι h fr a r) (hG : Glob ι h)
    (e : leaveV C fn fr h = .ok (v, h')) (hk : ∀ w', Stp B ι ι h h' w w' → okV ι h'.n v → Q (.returned (conc ι v)) w') : LeavesInM F n P fn a.tmps Q a.defers .returning w := by
  obtain ⟨h2, g1, g2⟩ := E.bd_eq_ok (show ((shutV fr.defs h).bd fun h => (mapE (fun r => resV C r fr h) fn.results.toList).bd fun vs => match vs with
    | [v] => .ok (v, h)
    | vs => .ok (.tup vs, h)) = .ok (v, h') from e)
  obtain ⟨vs, g3, g4⟩ := E.bd_eq_ok g2
  rw [hF.df]
  refine marks_ok (P := P) fr.defs h h2 w hR g1 fun w2 hS => ?_
  have hF2 := hF.step hS
  have hG2 := Glob.step hS hG
  have hrun := run_mapE (P := P) (w := w2) (f := resS a.tmps) (fun q v e => (resV_ok hC hS.rel hF2 hG2 e).1) _ _ g3
  have hok : okL ι h2.n vs := by
    rw [okL_iff]
    exact mapE_all (p := okV ι h2.n) (fun q v e => (resV_ok (w := w2) hC hS.rel hF2 hG2 e).2) g3
  have hres : ∀ v', (if hs : (concL ι vs).toArray.size = 1 then (concL ι vs).toArray[0] else Value.tuple (concL ι vs).toArray) = v' → (results fn a.tmps).run P w2 = .ok v' w2 := by
    intro v' hv
    have h5 : results fn a.tmps = (do let vs ← (List.toArray <$> fn.results.toList.mapM (resS a.tmps)); pure (if h : vs.size = 1 then vs[0] else .tuple vs)) := by
      unfold results
      rw [Array.mapM_eq_mapM_toList]
      rfl
    rw [h5]
    simp [hrun, Result.andThen, ← hv]
  split at g4
  · rename_i v1
    injection g4 with g4; injection g4 with g4 g5
    subst g4 g5
    exact ⟨conc ι v1, hres _ (by simp [concL]), hk w2 hS hok.1⟩
  · rename_i hne
    injection g4 with g4; injection g4 with g4 g5
    subst g4 g5
    refine ⟨conc ι (.tup vs), hres _ ?_, hk w2 hS hok⟩
    rw [dif_neg]
    · rfl
    · intro hs
      simp only [List.size_toArray, concL_length] at hs
      obtain ⟨v1, hv1⟩ := List.length_eq_one_iff.1 hs
      exact hne v1 hv1

omit hC in
def GamOk (C : Cx) (P : Program) : Prop :=
  ∀ f g, C.gam f = some g → ∀ args h v h', g args h = .ok (v, h') → ∀ B ι w, R B ι h w → Glob ι h → okL ι h.n args → CallRes P B ι h h' w f args v
omit hC in
theorem tag_ok {α : Type} {f : Nat} {m : E α} {a : α} (e : tag f m = .ok a) : m = .ok a := by
  cases m with
  | ok b => exact e
  | err l => cases e
theorem callEv_ok (hg : GamOk C P) {code : Code → Fr → H → E (X × Fr × H)} (hcode : CodeOk P code) : CallOk P (callEv C code) := by
  intro f args h v h' e B ι w hR hG hok
  unfold callEv at e
  split at e
  · rename_i g hgam
    exact hg f g hgam args h v h' e B ι w hR hG hok
  · obtain ⟨fn, h1, e1⟩ := E.bd_eq_ok e; clear e
    have h1 := ofOpt_ok h1
    split at e1
    · cases e1
    · rename_i c hbody
      have e2 := tag_ok e1
      obtain ⟨h2, e3⟩ := chk_ok e2
      rw [Bool.and_eq_true] at h2
      have hle := ble_eq h2.1
      have hn := ble_eq h2.2
      obtain ⟨t, e4, ht⟩ := argsT_ok args 0 emp _ _ (by omega) e3
      obtain ⟨x, fr', h3, e5, e6⟩ := E.bd3_eq_ok e4
      refine .inl ⟨hC.call f fn h1 (by rw [hbody]; rfl) _ _, fun r n => ?_⟩
      have key : CallsIn (FW none) n P f (concL ι args).toArray w (Ret B ι h h' w v) := by
        refine callsIn_of_wp_marks (hC.fn f fn h1) hbody trivial ?_
        have hF0 : FrR ι h ⟨f, fn.ntmps, t, none, []⟩ { tmps := (concL ι args).toArray ++ Array.replicate (fn.ntmps - (concL ι args).toArray.size) undef, defers := [] } none :=
          ⟨enter_tmps hn hle hok ht, rfl, fun b hb => (by cases hb), rfl, fun l hl => (by cases hl)⟩
        refine hcode c _ h x fr' h3 e5 B ι w _ none hR hF0 hG n _ fun ι' a' w' hS hF' => ?_
        have hleave : leaveV C fn fr' h3 = .ok (v, h') → LeavesInM (FW none) n P fn a'.tmps (Ret B ι h h' w v) a'.defers .returning w' := fun e7 =>
          leave_ok hC hS.rel hF' (Glob.step hS hG) e7 fun w2 hS2 hok2 => ⟨ι', rfl, hS.trans hS2, hok2⟩
        cases x with
        | nrm => exact hleave e6
        | ret => exact hleave e6
        | exit id => cases e6
      cases r with
      | none => exact key
      | some l => exact CallsIn.inRound l key
end
end Go.Eng
