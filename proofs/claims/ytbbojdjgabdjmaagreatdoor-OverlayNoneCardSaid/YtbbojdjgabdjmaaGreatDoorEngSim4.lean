/- The abstract evaluator: drawn regions, proved. -/
import Derived.Test.YtbbojdjgabdjmaaGreatDoorEngSim3
namespace Go.Eng
open Go Go.RowKit
section
variable {C : Cx} {P : Program} {ops : Array Oper} {r : Option Nat} {B : Nat} {ι0 : Inj} {h0 : H} {w0 : World}
variable (hC : CxOk C P) {call : FuncId → List AV → H → E (AV × H)} {round : Nat → List AV → H → E (AV × H)} (hcall : CallOk P call) (hround : RoundOk P round)
include hC hcall hround
theorem sim_ok {frF : Fr} {hF : H} {n : Nat} {Q : Exit → Act → World → Prop} (hB : B ≤ w0.heap.size) (hk : ∀ ι' a' w', Stp B ι0 ι' h0 hF w0 w' → FrR ι' hF frF a' r → Q .normal a' w') :
    ∀ (fuel : Nat) (pl : Pl) (L : Nat) (K KA : List (Nat × Oper)) (D : List Pd) (pe : List PE) (E : List Ea) (ι : Inj) (h : H) (w : World) (a0 a : Act) (listed0 listed : Array Bool) (fr : Fr),
      (∀ i o b rest, pl ≠ .light i o b rest) → (∀ i o m rest, pl = .heavy i o m rest → ∀ e ∈ E, e.i ≠ i) → PlOk C ops pl L K KA → runPl C call round ops.toList pl pe fr h = .ok (frF, hF) →
      Sim C P ops r B ι0 h0 w0 L K KA D pe ι h w a0 listed0 fr → Early C ops w0 L E ι h w a0 a listed0 listed →
      (unl ops.size listed).length ≤ fuel → wpAnyIn (FW r) n P .any ops Q fuel listed a w := by
  intro fuel
  have hdone : ∀ (pl : Pl) (L : Nat) (K KA : List (Nat × Oper)) (D : List Pd) (pe : List PE) (E : List Ea) (ι : Inj) (h : H) (w : World) (a0 a : Act) (listed0 listed : Array Bool) (fr : Fr),
      (∀ i o b rest, pl ≠ .light i o b rest) → (∀ i o m rest, pl = .heavy i o m rest → ∀ e ∈ E, e.i ≠ i) → PlOk C ops pl L K KA → runPl C call round ops.toList pl pe fr h = .ok (frF, hF) →
      Sim C P ops r B ι0 h0 w0 L K KA D pe ι h w a0 listed0 fr → Early C ops w0 L E ι h w a0 a listed0 listed → Region.ready .any ops listed = [] → Q .normal a w := fun pl L K KA D pe E ι h w a0 a listed0 listed fr h1 hh h2 h3 s y hr => by
    have hno : ∀ i o, ops[i]? = some o → listed.getD i false = false → (∀ p, Pre o p → listed.getD p false = true) → False := fun i o ho hl hpre => by
      have hi : i < listed.size := by rw [y.size]; exact (Array.getElem?_eq_some_iff.1 ho).1
      have hl' : listed.getD i true = false := by simpa [Array.getD_eq_getD_getElem?, hi] using hl
      have : i ∈ Region.ready .any ops listed := mem_ready.2 ⟨hl', o, ho, fun e he hb => hpre _ ⟨e, he, hb, rfl⟩⟩
      rw [hr] at this
      cases this
    have hmono : ∀ j, listed0.getD j false = true → listed.getD j false = true := fun j hj => (y.lst j).2 (.inl hj)
    have hD : D = [] := by
      cases D with
      | nil => rfl
      | cons d D =>
        have hd := List.mem_cons_self (a := d) (l := D)
        refine absurd (hno d.i d.o (s.oper d hd) ?_ fun p hp => hmono p (s.ord.1 p hp)) id
        cases hx : listed.getD d.i false with
        | false => rfl
        | true =>
          rcases (y.lst d.i).1 hx with hx | ⟨e, he, hei⟩
          · rw [(getD_lt (s.dis d hd)).2] at hx; cases hx
          · have := (s.lst d.i).2 (.inr ⟨d, hd, rfl⟩)
            rw [← hei, y.notL e he] at this
            cases this
    subst hD
    cases pl with
    | light i o b rest => exact absurd rfl (h1 i o b rest)
    | heavy i o m rest =>
      obtain ⟨p1, p2, p3, p4, p5, p6, p7, p8⟩ := h2
      refine absurd (hno i o p1 ?_ fun p hp => hmono p (((s.lst p).1 (p3 p hp)).elim id fun ⟨d, hd, _⟩ => by cases hd)) id
      cases hx : listed.getD i false with
      | false => rfl
      | true =>
        rcases (y.lst i).1 hx with hx | ⟨e, he, hei⟩
        · rw [(s.lst i).2 (.inl hx)] at p2; cases p2
        · exact absurd hei (hh i o m rest rfl e he)
    | done =>
      have hE : E = [] := by
        cases E with
        | nil => rfl
        | cons e E =>
          have he := List.mem_cons_self (a := e) (l := E)
          have := h2 e.i e.o (y.op e he)
          rw [y.notL e he] at this
          cases this
      subst hE
      have h3 : (Go.Eng.E.ok (fr, h) : Go.Eng.E (Fr × H)) = .ok (frF, hF) := h3
      injection h3 with h3
      injection h3 with h3 h4
      subst h3 h4
      have ha : a = a0 := y.act
      rw [ha]
      exact hk ι a0 w s.S s.F
  induction fuel with
  | zero =>
    intro pl L K KA D pe E ι h w a0 a listed0 listed fr h1 hh h2 h3 s y hu
    have hall := unl_nil y.size hu
    have hr : Region.ready .any ops listed = [] := by
      rw [List.eq_nil_iff_forall_not_mem]
      intro i hi
      have := (mem_ready.1 hi).1
      rw [hall i] at this
      cases this
    exact ⟨hr, hdone pl L K KA D pe E ι h w a0 a listed0 listed fr h1 hh h2 h3 s y hr⟩
  | succ fuel ih =>
    intro pl L K KA D pe E ι h w a0 a listed0 listed fr h1 hh h2 h3 s y hu
    refine ⟨hdone pl L K KA D pe E ι h w a0 a listed0 listed fr h1 hh h2 h3 s y, fun i hi => ?_⟩
    obtain ⟨hl, o, ho, hpre⟩ := mem_ready.1 hi
    have hpre : ∀ p, Pre o p → listed.getD p false = true := fun p ⟨e, he, hb, hp⟩ => hp ▸ hpre e he hb
    obtain ⟨hil, hlf⟩ := getD_lt hl
    have hu' : (unl ops.size (listed.setIfInBounds i true)).length ≤ fuel := by
      have := unl_set hl y.size
      omega
    have hl0 : listed0.getD i false = false := by
      cases hx : listed0.getD i false with
      | false => rfl
      | true => rw [(y.lst i).2 (.inl hx)] at hlf; cases hlf
    have hdown' : ∀ j oj, ops[j]? = some oj → (listed.setIfInBounds i true).getD j false = true → ∀ p, Pre oj p → (listed.setIfInBounds i true).getD p false = true := fun j oj hj hlj p hp => by
      rw [getD_set_iff hil] at hlj ⊢
      rcases hlj with hlj | rfl
      · exact .inl (y.down j oj hj hlj p hp)
      · have : oj = o := Option.some.inj (hj.symm.trans ho)
        subst this
        exact .inl (hpre p hp)
    have hpreE : ∀ e ∈ E, ∀ p, Pre e.o p → (listed.setIfInBounds i true).getD p false = true := fun e he p hp => (getD_set_iff hil).2 (.inl (y.pre e he p hp))
    cases hL : L.testBit i with
    | true =>
      rcases (s.lst i).1 hL with hx | ⟨d, hd, rfl⟩
      · rw [hl0] at hx; cases hx
      · have hap := y.apart h2 (s.inA d hd) hlf
        obtain ⟨D1, D2, rfl⟩ := List.append_of_mem hd
        have : o = d.o := Option.some.inj (ho.symm.trans (s.oper d hd))
        subst this
        have hr0 : ∀ p, Pre d.o p → listed0.getD p false = true := fun p hp => by
          rcases (y.lst p).1 (hpre p hp) with hx | ⟨e, he, hei⟩
          · exact hx
          · have hLp : L.testBit p = true := by
              rcases ((Ords.append D1 _).1 s.ord).2.1 p hp with hx | ⟨d1, hd1, hx⟩
              · exact (s.lst p).2 (.inl hx)
              · exact (s.lst p).2 (.inr ⟨d1, List.mem_append_left _ hd1, hx⟩)
            rw [← hei, y.notL e he] at hLp
            cases hLp
        have hdl := s.lit d hd
        have hi0 := (getD_lt (s.dis d hd)).1
        obtain ⟨g1, g2⟩ := s.doneD hr0
        refine lt_wp ho hdl (by rw [y.act]; exact Lt.putsE hdl E a0 hap g1) (ih pl L K KA _ pe E ι h w _ _ _ _ fr h1 hh h2 h3 g2 { y with
          act := by
            rw [y.act]
            exact (putsE_put E a0 fun e he t ht hx => (Oper.apart_spec (hap e he)).2.1 t ht hx).symm
          size := by rw [Array.size_setIfInBounds]; exact y.size
          lst := fun j => by
            rw [getD_set_iff hil, getD_set_iff hi0, y.lst j]
            constructor
            · rintro ((hx | hx) | hx)
              · exact .inl (.inl hx)
              · exact .inr hx
              · exact .inl (.inr hx)
            · rintro ((hx | hx) | hx)
              · exact .inl (.inl hx)
              · exact .inr hx
              · exact .inl (.inr hx)
          pre := hpreE
          down := hdown' } hu')
    | false =>
      -- is it the plan's next, or a new variable that comes early?
      have hcase : (∃ m rest, pl = .heavy i o m rest) ∨ (allocE C o = true ∧ ∀ i' o' m rest, pl = .heavy i' o' m rest → i' ≠ i) := by
        cases pl with
        | done => rw [h2 i o ho] at hL; cases hL
        | light i' o' b rest => exact absurd rfl (h1 i' o' b rest)
        | heavy j oj m rest =>
          obtain ⟨p1, p2, p3, p4, p5, p6, p7, p8⟩ := h2
          by_cases hij : i = j
          · subst hij
            have : oj = o := Option.some.inj (p1.symm.trans ho)
            subst this
            exact .inl ⟨m, rest, rfl⟩
          · refine .inr ⟨?_, fun i' o' m' rest' hx => by injection hx with hx; rw [← hx]; exact fun h => hij h.symm⟩
            rcases p6 i o ho hL hij with ha | ⟨p, hp, hpL, hpa⟩
            · exact ha
            · rcases (y.lst p).1 (hpre p hp) with hx | ⟨e, he, hei⟩
              · rw [(s.lst p).2 (.inl hx)] at hpL; cases hpL
              · rcases hpa with rfl | hpa
                · exact absurd hei (hh p oj m rest rfl e he)
                · have := hpa e.o (by rw [← hei]; exact y.op e he)
                  rw [y.isA e he] at this
                  cases this
      rcases hcase with ⟨m, rest, rfl⟩ | ⟨ha, hnh⟩
      · have hPl := h2
        obtain ⟨p1, p2, p3, p4, p5, p6, p7, p8⟩ := h2
        have hr0 : ∀ p, Pre o p → listed0.getD p false = true := fun p hp => by
          rcases (y.lst p).1 (hpre p hp) with hx | ⟨e, he, hei⟩
          · exact hx
          · have hLp := p3 p hp
            rw [← hei, y.notL e he] at hLp
            cases hLp
        have hneE : ∀ e ∈ E, e.i ≠ i := hh i o m rest rfl
        have hnL : ∀ e ∈ E, (Nat.lor L (bitM i)).testBit e.i = false := fun e he => by
          rw [testBit_lor, y.notL e he, testBit_bitM]
          simp [(hneE e he).symm]
        have hapE : ∀ e ∈ E, o.apart ops e.o = true := fun e he => by
          rcases PlOk.later (y.op e he) (y.isA e he) rest _ _ _ p8 (hnL e he) (i, o) (List.mem_cons_self ..) with hmb | hx
          · have h1 := hmb (fun j => listed.getD j false = true) (fun j oj hj hS p hp => y.down j oj hj hS p hp) (y.pre e he)
            simp only [hlf] at h1
            cases h1
          · exact hx
        have hapD : ∀ d ∈ D, d.o.apart ops o = true := fun d hd => (p4 _ (s.inK d hd)).resolve_left fun hmb => by
          have h1 := hmb (fun j => listed0.getD j false = true) (fun j oj hj hS p hp => s.down j oj hj hS p hp) hr0
          have h2 := (getD_lt (s.dis d hd)).2
          simp only [h2] at h1
          cases h1
        have h3 : ite' (wantedV ops.toList fr o)
          ((oneV C call round fr h o).bd2 fun v h' => putF fr o.dst v fun fr' => dropM m pe fun pe => recheck pe h' (nx (runPl C call round ops.toList rest pe fr' h')))
          (putF fr o.dst (.tup []) fun fr' => nx (runPl C call round ops.toList rest pe fr' h)) = .ok (frF, hF) := h3
        have hwd : Region.wanted o (yielded ops a.tmps) = wantedV ops.toList fr o := by
          rw [y.act, wanted_putsE E a0 hapE, ← wanted_puts D a0 hapD]
          exact wanted_ok s.F ops o
        have hG := Glob.step s.S s.G0
        have hcomm : ∀ e ∈ E, ∀ t, o.dst = some t → e.o.dst ≠ some t := fun e he t ht hx => (Oper.apart_spec (hapE e he)).2.1 t ht hx
        have hi0 : i < listed0.size := by rw [s.size, ← y.size]; exact hil
        have hearly : ∀ {ι' : Inj} {h' : H} {w' : World} {u : Value}, Stp B ι ι' h h' w w' → Early C ops w0 (Nat.lor L (bitM i)) E ι' h' w' (a0.put o.dst u) (a.put o.dst u) (listed0.setIfInBounds i true) (listed.setIfInBounds i true) := fun {ι' h' w' u} hS => { y with
          act := by rw [y.act]; exact (putsE_put E a0 hcomm).symm
          size := by rw [Array.size_setIfInBounds]; exact y.size
          lst := fun j => by
            rw [getD_set_iff hil, getD_set_iff hi0, y.lst j]
            constructor
            · rintro ((hx | hx) | hx)
              · exact .inl (.inl hx)
              · exact .inr hx
              · exact .inl (.inr hx)
            · rintro ((hx | hx) | hx)
              · exact .inl (.inl hx)
              · exact .inr hx
              · exact .inl (.inr hx)
          notL := hnL
          pre := hpreE
          blk := fun e he => by
            rw [hS.keep e.k (y.lt e he) fun ⟨b, hb, hw, hx⟩ => y.nol e he b hb (live_of_wrt hw) hx]
            exact y.blk e he
          lt := fun e he => Nat.lt_of_lt_of_le (y.lt e he) hS.size
          nol := fun e he b hb hl hx => by
            obtain ⟨b0, g1, g2, g3⟩ := hS.fresh b hb hl (by rw [hx]; exact y.lt e he)
            exact y.nol e he b0 g1 g2 (g3.trans hx)
          down := hdown' }
        unfold wpOpIn
        rw [ho]
        cases hw : wantedV ops.toList fr o with
        | true =>
          rw [hw, ite'_true] at h3
          simp only [hwd, hw, if_true]
          obtain ⟨v, h', e1, e2⟩ := Go.Eng.E.bd2_eq_ok h3
          refine oneV2_ok hC hcall hround s.S.rel s.F hG e1 (fun hs => by rw [y.act, execOp_putsE hs E a0 hapE, execOp_puts hs D a0 hapD]) fun ι' w' hS hok => ?_
          obtain ⟨fr', e3, e4⟩ := putF_ok (s.F.step hS) hok e2
          obtain ⟨pe', e5, e6⟩ := dropM_ok pe _ e3
          obtain ⟨e7, e8⟩ := chk_ok e5
          rw [nx_eq] at e8
          have s' := s.heavy hPl hr0 (s.S.trans hS) hS.le hS.ext' e4 e6 (.inl (allB_spec e7))
          obtain ⟨pl', L', K', KA', D', pe2, E', ι2, h2', a2, l2, fr2, q1, q2, q3, q4, q5, q6⟩ := norm hC hB rest _ _ _ _ _ E _ _ _ _ _ p8 e8 s' (hearly hS)
          exact ih pl' L' K' KA' D' pe2 E' ι2 h2' w' a2 _ l2 _ fr2 q1 q2 q3 q4 q5 q6 hu'
        | false =>
          rw [hw, ite'_false] at h3
          simp only [hwd, hw, Bool.false_eq_true, if_false]
          obtain ⟨fr', e3, e4⟩ := putF_ok (v := .tup []) s.F trivial h3
          rw [nx_eq] at e3
          have s' := s.heavy (pe' := pe) hPl hr0 s.S (Nat.le_refl _) (fun _ _ => rfl) e4 (fun x hx _ => hx) (.inr ⟨rfl, rfl⟩)
          obtain ⟨pl', L', K', KA', D', pe2, E', ι2, h2', a2, l2, fr2, q1, q2, q3, q4, q5, q6⟩ := norm hC hB rest _ _ _ _ _ E _ _ _ _ _ p8 e3 s' (hearly (Stp.refl s.S.rel))
          exact ⟨fun _ _ => trivial, ih pl' L' K' KA' D' pe2 E' ι2 h2' w a2 _ l2 _ fr2 q1 q2 q3 q4 q5 q6 hu'⟩
      · -- a new variable comes early
        obtain ⟨hgd, el, z, hop, hzv⟩ := allocE_spec ha
        obtain ⟨z1, z2, _, _⟩ := zeroV_ok hC hzv ιz 0
        have hwt : Region.wanted o (yielded ops a.tmps) = true := by unfold Region.wanted; rw [hgd]
        let o' : Obj := .cells (concL ιz (cellsV z)).toArray el
        have hrun : (execOp a.eval o).run P w = .ok (.value (.pointer (some ⟨w.heap.size, 0, none⟩))) (w.alloc o') := by
          unfold execOp
          rw [hop]
          simp only
          refine run_v ?_
          unfold Instr.alloc newVar
          simp only [Sem.run_bind, z1, Result.andThen_ok, conc_cells', run_newRow, Sem.run_pure]
          rfl
        unfold wpOpIn
        rw [ho]
        simp only [hwt, if_true]
        refine ⟨fun _ _ => trivial, ?_⟩
        show o.uponIn (FW r) n P a _ Q ((o.semAt r a.eval).run P w)
        rw [Oper.semAt_eq _ _ _ (fun c hc => by rw [hop] at hc; cases hc), hrun]
        have hS := s.S.grow o'
        have hsz : (w.alloc o').heap.size = w.heap.size + 1 := by show (w.heap.push o').size = _; rw [Array.size_push]
        have hiE : ∀ e ∈ E, e.i ≠ i := fun e he hei => by
          rw [(y.lst i).2 (.inr ⟨e, he, hei⟩)] at hlf; cases hlf
        refine ih pl L K KA D pe (E ++ [⟨i, o, el, z, w.heap.size⟩]) ι h (w.alloc o') a0 _ listed0 _ fr h1 (fun i' o' m rest hx e he => ?_) h2 h3 { s with S := hS } ?_ hu'
        · rcases List.mem_append.1 he with he | he
          · exact hh i' o' m rest hx e he
          · rw [List.mem_singleton.1 he]; exact (hnh i' o' m rest hx).symm
        · have hall : ∀ {p : Ea → Prop}, (∀ e ∈ E, p e) → p ⟨i, o, el, z, w.heap.size⟩ → ∀ e ∈ E ++ [⟨i, o, el, z, w.heap.size⟩], p e := fun {p} h1 h2 e he => by
            rcases List.mem_append.1 he with he | he
            · exact h1 e he
            · rw [List.mem_singleton.1 he]; exact h2
          exact {
            act := by rw [putsE_append, ← y.act]; rfl
            size := by rw [Array.size_setIfInBounds]; exact y.size
            lst := fun j => by
              rw [getD_set_iff hil, y.lst j]
              constructor
              · rintro ((hx | ⟨e, he, hx⟩) | hx)
                · exact .inl hx
                · exact .inr ⟨e, List.mem_append_left _ he, hx⟩
                · exact .inr ⟨_, List.mem_append_right _ (List.mem_singleton.2 rfl), hx.symm⟩
              · rintro (hx | ⟨e, he, hx⟩)
                · exact .inl (.inl hx)
                · rcases List.mem_append.1 he with he | he
                  · exact .inl (.inr ⟨e, he, hx⟩)
                  · rw [List.mem_singleton.1 he] at hx; exact .inr hx.symm
            op := hall y.op ho
            isA := hall y.isA ha
            opE := hall y.opE ⟨hop, hzv⟩
            notL := hall y.notL hL
            pre := hall (p := fun e => ∀ p, Pre e.o p → (listed.setIfInBounds i true).getD p false = true) hpreE fun p hp => (getD_set_iff hil).2 (.inl (hpre p hp))
            blk := hall (p := fun e => (w.alloc o').heap[e.k]? = some (.cells (concL ιz (cellsV e.z)).toArray e.el (0, 0))) (fun e he => by rw [alloc_lt w o' _ (y.lt e he)]; exact y.blk e he) (alloc_new w o')
            ge := hall y.ge s.S.size
            lt := hall (p := fun e => e.k < (w.alloc o').heap.size) (fun e he => by have := y.lt e he; omega) (by rw [hsz]; exact Nat.lt_succ_self _)
            nol := hall y.nol fun b hb hl' => Nat.ne_of_lt (s.S.rel.lt b hb hl')
            prw := by
              rw [List.pairwise_append]
              refine ⟨y.prw, List.pairwise_singleton _ _, fun e he f hf => ?_⟩
              rw [List.mem_singleton.1 hf]
              refine ⟨hiE e he, Nat.ne_of_lt (y.lt e he), fun hmb => ?_⟩
              have h1 := hmb (fun j => listed.getD j false = true) (fun j oj hj hS p hp => y.down j oj hj hS p hp) (y.pre e he)
              simp only [hlf] at h1
              cases h1
            down := hdown' }
end
section
variable {C : Cx} {P : Program}
theorem drawnV_ok (hC : CxOk C P) (hm : P.follows .mixedOrders = true) : DrawnOk P (drawnV C) := by
  intro call round hcall hround ops fr h fr' h' e B ι w a r hR hF hG id n Q hk
  obtain ⟨pl, e1, e2⟩ := E.bd_eq_ok e
  refine wpIn_region_any hm ?_
  have hS0 : Stp B ι ι h h w { w with drawn := w.drawn + 1 } := (Stp.refl hR).drew _
  have hrep : ∀ j, (Array.replicate ops.size false).getD j false = false := fun j => by
    rw [Array.getD_eq_getD_getElem?, Array.getElem?_replicate]
    by_cases hj : j < ops.size
    · simp [hj]
    · simp [hj]
  have s0 : Sim C P ops r B ι h w 0 [] [] [] [] ι h { w with drawn := w.drawn + 1 } a (Array.replicate ops.size false) fr := {
    G0 := hG
    S := hS0
    F := hF
    size := by simp
    lst := fun j => by
      rw [Nat.zero_testBit, hrep j]
      constructor
      · intro h; cases h
      · rintro (h | ⟨d, hd, _⟩)
        · cases h
        · cases hd
    dis := fun d hd => by cases hd
    oper := fun d hd => by cases hd
    lit := fun d hd => by cases hd
    inK := fun d hd => by cases hd
    inA := fun d hd => by cases hd
    down := fun j oj hj hl => by rw [hrep j] at hl; cases hl
    ord := trivial
    pair := List.Pairwise.nil
    cur := trivial
    rc := trivial
    pend := fun d hd => by cases hd }
  have y0 : Early C ops w 0 [] ι h { w with drawn := w.drawn + 1 } a a (Array.replicate ops.size false) (Array.replicate ops.size false) := {
    act := rfl
    size := by simp
    lst := fun j => ⟨.inl, fun h => h.elim (fun x => x) fun ⟨e, he, _⟩ => by cases he⟩
    op := fun e he => by cases he
    isA := fun e he => by cases he
    opE := fun e he => by cases he
    notL := fun e he => by cases he
    pre := fun e he => by cases he
    blk := fun e he => by cases he
    ge := fun e he => by cases he
    lt := fun e he => by cases he
    nol := fun e he => by cases he
    prw := List.Pairwise.nil
    down := fun j oj hj hl => by rw [hrep j] at hl; cases hl }
  obtain ⟨pl', L', K', KA', D', pe2, E', ι2, h2', a2, l2, fr2, q1, q2, q3, q4, q5, q6⟩ := norm hC hR.sz pl _ _ _ _ _ [] _ _ _ _ _ (plan_ok e1) e2 s0 y0
  exact sim_ok hC hcall hround hR.sz hk ops.size pl' L' K' KA' D' pe2 E' ι2 h2' _ a2 _ l2 _ fr2 q1 q2 q3 q4 q5 q6 (by
    unfold unl
    exact Nat.le_trans (List.length_filter_le _ _) (by simp))
end
end Go.Eng
