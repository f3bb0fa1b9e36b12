/- The abstract evaluator: drawn regions, proved. -/
import Derived.Test.YtdkdehbcijoaeaaEngSim
namespace Go.Eng
open Go Go.RowKit
section
variable {C : Cx} {P : Program} {ops : Array Oper} {r : Option Nat} {B : Nat} {ι0 : Inj} {h0 : H} {w0 : World}
def unl (n : Nat) (listed : Array Bool) : List Nat := (List.range n).filter fun j => !listed.getD j true
theorem unl_set {n i : Nat} {listed : Array Bool} (hi : listed.getD i true = false) (hn : listed.size = n) : (unl n (listed.setIfInBounds i true)).length < (unl n listed).length := by
  have hlt : i < listed.size := (getD_lt hi).1
  have h1 : unl n (listed.setIfInBounds i true) = (unl n listed).filter fun j => j != i := by
    unfold unl
    rw [List.filter_filter]
    apply List.filter_congr
    intro j hj
    by_cases hij : i = j
    · subst hij
      simp [hlt]
    · rw [getD_set_ne true hij]
      have : (j != i) = true := by simpa using fun h => hij h.symm
      rw [this, Bool.true_and]
  rw [h1]
  exact List.length_filter_lt_length_iff_exists.2 ⟨i, List.mem_filter.2 ⟨List.mem_range.2 (by omega), by rw [hi]; rfl⟩, by simp⟩
theorem unl_nil {n : Nat} {listed : Array Bool} (hn : listed.size = n) (h : (unl n listed).length ≤ 0) : ∀ i, listed.getD i true = true := by
  intro i
  cases hi : listed.getD i true with
  | true => rfl
  | false =>
    have hlt := (getD_lt hi).1
    have : i ∈ unl n listed := List.mem_filter.2 ⟨List.mem_range.2 (by omega), by rw [hi]; rfl⟩
    have h0 : unl n listed = [] := List.length_eq_zero_iff.1 (Nat.le_zero.1 h)
    rw [h0] at this
    cases this
/-- Nothing is ready: all is done. -/
theorem Sim.still {pl : Pl} {L : Nat} {K : List (Nat × Oper)} {D : List Pd} {pe : List PE} {ι : Inj} {h : H} {w : World} {a : Act} {listed : Array Bool} {fr : Fr}
    (s : Sim C P ops r B ι0 h0 w0 L K D pe ι h w a listed fr) (hn : ∀ i o b rest, pl ≠ .light i o b rest) (hp : PlOk C ops pl L K) (hr : Region.ready .any ops listed = []) : D = [] ∧ pl = .done := by
  have hno : ∀ i o, ops[i]? = some o → listed.getD i true = false → (∀ p, Pre o p → listed.getD p false = true) → False := fun i o ho hl hpre => by
    have : i ∈ Region.ready .any ops listed := mem_ready.2 ⟨hl, o, ho, fun e he hb => hpre _ ⟨e, he, hb, rfl⟩⟩
    rw [hr] at this
    cases this
  have hD : D = [] := by
    cases D with
    | nil => rfl
    | cons d D => exact absurd (hno d.i d.o (s.oper d (List.mem_cons_self ..)) (s.dis d (List.mem_cons_self ..)) s.ord.1) id
  subst hD
  refine ⟨rfl, ?_⟩
  cases pl with
  | done => rfl
  | light i o b rest => exact absurd rfl (hn i o b rest)
  | heavy i o m rest =>
    obtain ⟨p1, p2, p3, p4, p5, p6, p7⟩ := hp
    have hi : i < listed.size := by rw [s.size]; exact (Array.getElem?_eq_some_iff.1 p1).1
    have hl : listed.getD i true = false := by
      have : ¬ listed.getD i false = true := fun hx => by rw [(s.lst i).2 (.inl hx)] at p2; cases p2
      have h1 : listed.getD i false = false := by simpa using this
      simpa [Array.getD_eq_getD_getElem?, hi] using h1
    exact absurd (hno i o p1 hl fun p hp => ((s.lst p).1 (p3 p hp)).elim id fun ⟨d, hd, _⟩ => by cases hd) id
/-- What the plan has next, and is not light, is done. -/
theorem Sim.heavy {i : Nat} {o : Oper} {m L : Nat} {rest : Pl} {K : List (Nat × Oper)} {D : List Pd} {pe pe' : List PE} {ι ι' : Inj} {h h' : H} {w w' : World} {a : Act} {listed : Array Bool} {fr fr' : Fr} {u : Value}
    (s : Sim C P ops r B ι0 h0 w0 L K D pe ι h w a listed fr) (hp : PlOk C ops (.heavy i o m rest) L K) (hr : ∀ p, Pre o p → listed.getD p false = true)
    (hS : Stp B ι ι' h h' w w') (hF : FrR ι' h' fr' ((putsD a D).put o.dst u) r) (hpe : ∀ x ∈ pe, m.testBit x.i = false → x ∈ pe')
    (hchk : (∀ x ∈ pe', x.c h' = true) ∨ (h' = h ∧ w' = w)) : Sim C P ops r B ι0 h0 w0 (Nat.lor L (bitM i)) K D pe' ι' h' w' (a.put o.dst u) (listed.setIfInBounds i true) fr' := by
  obtain ⟨p1, p2, p3, p4, p5, p6, p7⟩ := hp
  have hi : i < listed.size := by rw [s.size]; exact (Array.getElem?_eq_some_iff.1 p1).1
  have hmb : ∀ d ∈ D, ¬ MB ops d.i o := fun d hd hmb => by
    have h1 := hmb (fun j => listed.getD j false = true) (fun j oj hj hS p hp => s.down j oj hj hS p hp) hr
    have h2 := (getD_lt (s.dis d hd)).2
    simp only [h2] at h1
    cases h1
  have hap : ∀ d ∈ D, d.o.apart ops o = true := fun d hd => (p4 _ (s.inK d hd)).resolve_left (hmb d hd)
  have hcomm : ∀ x ∈ D, ∀ t, o.dst = some t → x.o.dst ≠ some t := fun x hx t ht hx' => (Oper.apart_spec (hap x hx)).2.1 t hx' ht
  have hne : ∀ d ∈ D, d.i ≠ i := fun d hd he => by
    have := (s.lst i).2 (.inr ⟨d, hd, he⟩)
    rw [p2] at this
    cases this
  have hrc := Walk.put (dst := o.dst) (v := u) D a (fun x hx => ⟨fun a h ι' h' w' q1 q2 q3 q4 q5 => (h ι' h' w' q1 q2 q3 q4 q5).put (s.lit x hx) (Oper.apart_spec (hap x hx)).2.2, hcomm x hx⟩) s.rc
  have hcu := Walk.put (dst := o.dst) (v := u) D a (fun x hx => ⟨fun a h => h.put (s.lit x hx) (Oper.apart_spec (hap x hx)).2.2, hcomm x hx⟩) s.cur
  have hpend : ∀ d ∈ D, (∀ h', d.c h' = true) ∨ PE.mk d.i d.c ∈ pe' := fun d hd => (s.pend d hd).imp id fun hx => hpe _ hx (by
    cases ht : m.testBit d.i with
    | false => exact ht
    | true => exact absurd (p5 _ (s.inK d hd) ht) (hmb d hd))
  exact {
    G0 := s.G0
    S := s.S.trans hS
    F := by rw [putsD_put D a hcomm]; exact hF
    size := by rw [Array.size_setIfInBounds]; exact s.size
    lst := fun j => by
      rw [testBit_lor, testBit_bitM, Bool.or_eq_true, s.lst j, getD_set_iff hi]
      constructor
      · rintro ((h | h) | h)
        · exact .inl (.inl h)
        · exact .inr h
        · exact .inl (.inr (by simpa using (of_decide_eq_true h).symm))
      · rintro ((h | h) | h)
        · exact .inl (.inl h)
        · exact .inr (by simpa using h.symm)
        · exact .inl (.inr h)
    dis := fun x hx => by
      rw [getD_set_ne true (hne x hx).symm]
      exact s.dis x hx
    oper := s.oper
    lit := s.lit
    inK := s.inK
    down := fun j oj hj hl p hp => by
      rw [getD_set_iff hi] at hl ⊢
      rcases hl with hl | rfl
      · exact .inl (s.down j oj hj hl p hp)
      · have : oj = o := Option.some.inj (hj.symm.trans p1)
        subst this
        exact .inl (hr p hp)
    ord := Ords.mono _ _ _ (fun j hj => (getD_set_iff hi).2 (.inl hj)) s.ord
    pair := s.pair
    cur := by
      rcases hchk with hchk | ⟨rfl, rfl⟩
      · refine Walk.mono D _ (fun d hd a hx => hx ι' h' w' hS.rel (Glob.step (s.S.trans hS) s.G0) hS.le hS.ext' ?_) hrc
        rcases hpend d hd with h1 | h1
        · exact h1 h'
        · exact hchk _ h1
      · exact hcu
    rc := Walk.mono D _ (fun d hd a hx ι2 h2 w2 q1 q2 q3 q4 q5 => hx ι2 h2 w2 q1 q2 (Nat.le_trans hS.le q3) (fun b hb => by
      have := hS.le
      rw [q4 b (by omega), hS.ext' b hb]) q5) hrc
    pend := hpend }
section
variable (hC : CxOk C P) {call : FuncId → List AV → H → E (AV × H)} {round : Nat → List AV → H → E (AV × H)} (hcall : CallOk P call) (hround : RoundOk P round)
include hC hcall hround
theorem sim_ok {frF : Fr} {hF : H} {n : Nat} {Q : Exit → Act → World → Prop} (hk : ∀ ι' a' w', Stp B ι0 ι' h0 hF w0 w' → FrR ι' hF frF a' r → Q .normal a' w') :
    ∀ (fuel : Nat) (pl : Pl) (L : Nat) (K : List (Nat × Oper)) (D : List Pd) (pe : List PE) (ι : Inj) (h : H) (w : World) (a : Act) (listed : Array Bool) (fr : Fr),
      (∀ i o b rest, pl ≠ .light i o b rest) → PlOk C ops pl L K → runPl C call round ops.toList pl pe fr h = .ok (frF, hF) → Sim C P ops r B ι0 h0 w0 L K D pe ι h w a listed fr →
      (unl ops.size listed).length ≤ fuel → wpAnyIn (FW r) n P .any ops Q fuel listed a w := by
  intro fuel
  have hdone : ∀ (pl : Pl) (L : Nat) (K : List (Nat × Oper)) (D : List Pd) (pe : List PE) (ι : Inj) (h : H) (w : World) (a : Act) (listed : Array Bool) (fr : Fr),
      (∀ i o b rest, pl ≠ .light i o b rest) → PlOk C ops pl L K → runPl C call round ops.toList pl pe fr h = .ok (frF, hF) → Sim C P ops r B ι0 h0 w0 L K D pe ι h w a listed fr →
      Region.ready .any ops listed = [] → Q .normal a w := fun pl L K D pe ι h w a listed fr h1 h2 h3 s hr => by
    obtain ⟨rfl, rfl⟩ := s.still h1 h2 hr
    have h3 : (E.ok (fr, h) : E (Fr × H)) = .ok (frF, hF) := h3
    injection h3 with h3
    injection h3 with h3 h4
    subst h3 h4
    exact hk ι a w s.S s.F
  induction fuel with
  | zero =>
    intro pl L K D pe ι h w a listed fr h1 h2 h3 s hu
    have hall := unl_nil s.size hu
    have hr : Region.ready .any ops listed = [] := by
      rw [List.eq_nil_iff_forall_not_mem]
      intro i hi
      have := (mem_ready.1 hi).1
      rw [hall i] at this
      cases this
    exact ⟨hr, hdone pl L K D pe ι h w a listed fr h1 h2 h3 s hr⟩
  | succ fuel ih =>
    intro pl L K D pe ι h w a listed fr h1 h2 h3 s hu
    refine ⟨hdone pl L K D pe ι h w a listed fr h1 h2 h3 s, fun i hi => ?_⟩
    obtain ⟨hl, o, ho, hpre⟩ := mem_ready.1 hi
    have hpre : ∀ p, Pre o p → listed.getD p false = true := fun p ⟨e, he, hb, hp⟩ => hp ▸ hpre e he hb
    have hu' : (unl ops.size (listed.setIfInBounds i true)).length ≤ fuel := by
      have := unl_set hl s.size
      omega
    cases hL : L.testBit i with
    | true =>
      rcases (s.lst i).1 hL with hx | ⟨d, hd, rfl⟩
      · rw [(getD_lt hl).2] at hx; cases hx
      · obtain ⟨D1, D2, rfl⟩ := List.append_of_mem hd
        have : o = d.o := Option.some.inj (ho.symm.trans (s.oper d hd))
        subst this
        obtain ⟨g1, g2⟩ := s.doneD hpre
        exact lt_wp ho (s.lit d hd) g1 (ih pl L K _ pe ι h w _ _ fr h1 h2 h3 g2 hu')
    | false =>
      cases pl with
      | done => rw [h2 i o ho] at hL; cases hL
      | light i o b rest => exact absurd rfl (h1 i o b rest)
      | heavy j oj m rest =>
        obtain ⟨p1, p2, p3, p4, p5, p6, p7⟩ := h2
        by_cases hij : i = j
        case neg =>
          obtain ⟨p, hp, hpL⟩ := p6 i o ho hL hij
          rw [(s.lst p).2 (.inl (hpre p hp))] at hpL
          cases hpL
        subst hij
        have : oj = o := Option.some.inj (p1.symm.trans ho)
        subst this
        have hPl : PlOk C ops (.heavy i oj m rest) L K := ⟨p1, p2, p3, p4, p5, p6, p7⟩
        have hap : ∀ d ∈ D, d.o.apart ops oj = true := fun d hd => (p4 _ (s.inK d hd)).resolve_left fun hmb => by
          have h1 := hmb (fun j => listed.getD j false = true) (fun j oj hj hS p hp => s.down j oj hj hS p hp) hpre
          have h2 := (getD_lt (s.dis d hd)).2
          simp only [h2] at h1
          cases h1
        have h3 : ite' (wantedV ops.toList fr oj)
          ((oneV C call round fr h oj).bd2 fun v h' => putF fr oj.dst v fun fr' => dropM m pe fun pe => recheck pe h' (nx (runPl C call round ops.toList rest pe fr' h')))
          (putF fr oj.dst (.tup []) fun fr' => nx (runPl C call round ops.toList rest pe fr' h)) = .ok (frF, hF) := h3
        have hwd : Region.wanted oj (yielded ops a.tmps) = wantedV ops.toList fr oj := by rw [← wanted_puts D a hap]; exact wanted_ok s.F ops oj
        have hG := Glob.step s.S s.G0
        unfold wpOpIn
        rw [ho]
        cases hw : wantedV ops.toList fr oj with
        | true =>
          rw [hw, ite'_true] at h3
          simp only [hwd, hw, if_true]
          obtain ⟨v, h', e1, e2⟩ := E.bd2_eq_ok h3
          refine oneV2_ok hC hcall hround s.S.rel s.F hG e1 (fun hs => (execOp_puts hs D a hap).symm) fun ι' w' hS hok => ?_
          obtain ⟨fr', e3, e4⟩ := putF_ok (s.F.step hS) hok e2
          obtain ⟨pe', e5, e6⟩ := dropM_ok pe _ e3
          obtain ⟨e7, e8⟩ := chk_ok e5
          rw [nx_eq] at e8
          have s' := s.heavy hPl hpre hS e4 e6 (.inl (allB_spec e7))
          obtain ⟨pl', L', K', D', pe2, fr2, q1, q2, q3, q4⟩ := Sim.ahead hC rest _ _ _ _ _ p7 e8 s'
          exact ih pl' L' K' D' pe2 ι' h' w' _ _ fr2 q1 q2 q3 q4 hu'
        | false =>
          rw [hw, ite'_false] at h3
          simp only [hwd, hw, Bool.false_eq_true, if_false]
          obtain ⟨fr', e3, e4⟩ := putF_ok (v := .tup []) s.F trivial h3
          rw [nx_eq] at e3
          have s' := s.heavy (pe' := pe) hPl hpre (Stp.refl s.S.rel) e4 (fun x hx _ => hx) (.inr ⟨rfl, rfl⟩)
          obtain ⟨pl', L', K', D', pe2, fr2, q1, q2, q3, q4⟩ := Sim.ahead hC rest _ _ _ _ _ p7 e3 s'
          exact ⟨fun _ _ => trivial, ih pl' L' K' D' pe2 ι h w _ _ fr2 q1 q2 q3 q4 hu'⟩
end
theorem drawnV_ok (hC : CxOk C P) (hm : P.follows .mixedOrders = true) : DrawnOk P (drawnV C) := by
  intro call round hcall hround ops fr h fr' h' e B ι w a r hR hF hG id n Q hk
  obtain ⟨pl, e1, e2⟩ := E.bd_eq_ok e
  refine wpIn_region_any hm ?_
  have hS0 : Stp B ι ι h h w { w with drawn := w.drawn + 1 } := (Stp.refl hR).drew _
  have s0 : Sim C P ops r B ι h w 0 [] [] [] ι h { w with drawn := w.drawn + 1 } a (Array.replicate ops.size false) fr := {
    G0 := hG
    S := hS0
    F := hF
    size := by simp
    lst := fun j => by
      rw [Nat.zero_testBit]
      constructor
      · intro h; cases h
      · rintro (h | ⟨d, hd, _⟩)
        · rw [Array.getD_eq_getD_getElem?, Array.getElem?_replicate] at h
          by_cases hj : j < ops.size
          · simp [hj] at h
          · simp [hj] at h
        · cases hd
    dis := fun d hd => by cases hd
    oper := fun d hd => by cases hd
    lit := fun d hd => by cases hd
    inK := fun d hd => by cases hd
    down := fun j oj hj hl => by
      rw [Array.getD_eq_getD_getElem?, Array.getElem?_replicate] at hl
      by_cases hj : j < ops.size
      · simp [hj] at hl
      · simp [hj] at hl
    ord := trivial
    pair := List.Pairwise.nil
    cur := trivial
    rc := trivial
    pend := fun d hd => by cases hd }
  obtain ⟨pl', L', K', D', pe2, fr2, q1, q2, q3, q4⟩ := Sim.ahead hC pl _ _ _ _ _ (plan_ok e1) e2 s0
  exact sim_ok hC hcall hround hk ops.size pl' L' K' D' pe2 ι h _ a _ fr2 q1 q2 q3 q4 (by
    unfold unl
    exact Nat.le_trans (List.length_filter_le _ _) (by simp))
end
end Go.Eng
