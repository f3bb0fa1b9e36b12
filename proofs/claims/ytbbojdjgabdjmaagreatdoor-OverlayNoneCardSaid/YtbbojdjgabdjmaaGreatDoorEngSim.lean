/- The abstract evaluator: in any order a drawn region comes to what its plan says. -/
import Derived.Test.YtbbojdjgabdjmaaGreatDoorEngDrawn
namespace Go.Eng
open Go Go.RowKit
section
variable {C : Cx} {P : Program} (hC : CxOk C P) {call : FuncId → List AV → H → E (AV × H)} {round : Nat → List AV → H → E (AV × H)} (hcall : CallOk P call) (hround : RoundOk P round)
include hC hcall hround
/-- One operation, at another activation that reads the same there. -/
theorem oneV2_ok {B : Nat} {ι : Inj} {h h' : H} {w : World} {fr : Fr} {a aS : Act} {r : Option Nat} (hR : R B ι h w) (hF : FrR ι h fr aS r) (hG : Glob ι h) {o : Oper} {v : AV} (e : oneV C call round fr h o = .ok (v, h'))
    (hs : (∀ cs b, o.op ≠ .select cs b) → execOp a.eval o = execOp aS.eval o)
    {n : Nat} {next : Act → World → Prop} {Q : Exit → Act → World → Prop} (hk : ∀ ι' w', Stp B ι ι' h h' w w' → okV ι' h'.n v → next (a.put o.dst (conc ι' v)) w') : o.wpIn (FW r) n P a w next Q := by
  refine ⟨fun _ _ => trivial, ?_⟩
  obtain ⟨x, h1, h2⟩ := E.bd_eq_ok e
  have hx := opE_ok hC hR hF hG h1
  have hsem : ∀ b : Act, Oper.semAt r b.eval o = execOp b.eval o := fun b => Oper.semAt_eq _ _ _ fun c hc => by rw [hc] at h1; cases h1
  show o.uponIn (FW r) n P a next Q ((o.semAt r a.eval).run P w)
  rw [hsem aS] at hx
  rw [hsem a, hs fun cs b hc => (by rw [hc] at h1; cases h1)]
  cases x with
  | val v1 h1' =>
    have h2 : (E.ok (v1, h1') : E (AV × H)) = .ok (v, h') := h2
    injection h2 with h2
    injection h2 with h2 h3
    subst h2 h3
    obtain ⟨ι', w', nx, hrun, hnx, hS, hok⟩ := hx
    rw [hrun]
    rcases hnx with hnx | ⟨hnx, hv⟩
    · subst hnx
      exact hk ι' w' hS hok
    · subst hnx hv
      exact hk ι' w' hS hok
  | enter f args h0 =>
    obtain ⟨rfl, hrun, hok⟩ := hx
    have h2 : call f args h0 = .ok (v, h') := h2
    rw [hrun]
    rcases hcall f args h0 v h' h2 B ι w hR hG hok with ⟨hr1, hr2⟩ | ⟨ι', w', hr1, hS, hok'⟩
    · rw [hr1]
      refine ⟨fun hd => (by cases hd), (hr2 r (n - 1)).mono fun e w' hret => ?_⟩
      obtain ⟨ι', rfl, hS, hok'⟩ := hret
      exact hk ι' w' hS hok'
    · rw [hr1]
      exact hk ι' w' hS hok'
  | round l args h0 =>
    obtain ⟨rfl, hrun, hok, hl⟩ := hx
    have h2 : round l args h0 = .ok (v, h') := h2
    rw [hrun]
    obtain ⟨f, tmps, assign, body, hr1, hr2⟩ := hround l args h0 v h' h2 B ι w hR hG hok hl
    rw [hr1]
    refine ⟨fun hd => (by cases hd), (hr2 r (n - 1)).mono fun e w' hret => ?_⟩
    obtain ⟨ι', rfl, hS, hok'⟩ := hret
    exact hk ι' w' hS hok'
end

/-- Where a walk through a drawn region stands: its plan has come to L; what of it is still to be done is D. -/
structure Sim (C : Cx) (P : Program) (ops : Array Oper) (r : Option Nat) (B : Nat) (ι0 : Inj) (h0 : H) (w0 : World) (L : Nat) (K KA : List (Nat × Oper)) (D : List Pd) (pe : List PE) (ι : Inj) (h : H) (w : World) (a : Act) (listed : Array Bool) (fr : Fr) : Prop where
  G0 : Glob ι0 h0
  S : Stp B ι0 ι h0 h w0 w
  F : FrR ι h fr (putsD a D) r
  size : listed.size = ops.size
  lst : ∀ j, (L.testBit j = true ↔ (listed.getD j false = true ∨ ∃ d ∈ D, d.i = j))
  dis : ∀ d ∈ D, listed.getD d.i true = false
  oper : ∀ d ∈ D, ops[d.i]? = some d.o
  lit : ∀ d ∈ D, lightE C d.o.op = true
  inK : ∀ d ∈ D, (d.i, d.o) ∈ K
  inA : ∀ d ∈ D, (d.i, d.o) ∈ KA
  down : ∀ j oj, ops[j]? = some oj → listed.getD j false = true → ∀ p, Pre oj p → listed.getD p false = true
  ord : Ords (fun j => listed.getD j false = true) D
  pair : D.Pairwise fun d e => d.i ≠ e.i ∧ (MB ops d.i e.o ∨ d.o.apart ops e.o = true)
  cur : Walk (fun a d => ∀ w', R B ι h w' → Lt P ops d.o a w' d.u) a D
  rc : Walk (fun a d => ∀ ι' h' w', R B ι' h' w' → Glob ι' h' → h.n ≤ h'.n → (∀ b, b < h.n → ι' b = ι b) → d.c h' = true → Lt P ops d.o a w' d.u) a D
  pend : ∀ d ∈ D, (∀ h', d.c h' = true) ∨ PE.mk d.i d.c ∈ pe
section
variable {C : Cx} {P : Program} {ops : Array Oper} {r : Option Nat} {B : Nat} {ι0 : Inj} {h0 : H} {w0 : World}
theorem FrR.more {ι ι' : Inj} {h h' : H} {fr : Fr} {a : Act} (f : FrR ι h fr a r) (hn : h.n ≤ h'.n) (he : ∀ b, b < h.n → ι' b = ι b) : FrR ι' h' fr a r where
  tm := f.tm.ext hn he
  df := by
    rw [f.df]
    apply List.map_congr_left
    intro b hb
    rw [he b (f.db b hb)]
  db := fun b hb => Nat.lt_of_lt_of_le (f.db b hb) hn
  rnd := by
    rw [f.rnd]
    cases hr : fr.rnd with
    | none => rfl
    | some l => simp [he l (f.rb l hr)]
  rb := fun l hl => Nat.lt_of_lt_of_le (f.rb l hl) hn
theorem lightV_ok {o : Op} {fr : Fr} {h : H} {v : AV} (e : lightV C o fr h = .ok v) : ∃ h', opE o C fr h = .ok (.val v h') := by
  obtain ⟨x, h1, h2⟩ := E.bd_eq_ok e
  cases x with
  | val v' h' =>
    have h2 : (E.ok v' : E AV) = .ok v := h2
    injection h2 with h2
    subst h2
    exact ⟨h', h1⟩
  | enter f args h' => cases h2
  | round l args h' => cases h2
theorem Lt.of_light (hC : CxOk C P) {ι : Inj} {h : H} {w : World} {fr : Fr} {a : Act} {o : Oper} {v : AV} (hR : R B ι h w) (hF : FrR ι h fr a r) (hG : Glob ι h) (hl : lightE C o.op = true)
    (hw : wantedV ops.toList fr o = true) (e : lightV C o.op fr h = .ok v) : Lt P ops o a w (conc ι v) ∧ okV ι h.n v := by
  obtain ⟨h', h1⟩ := lightV_ok e
  obtain ⟨v', g1, g2, g3⟩ := opL_ok hC hR hF hG hl h1
  injection g1 with g1 g4
  subst g1
  exact ⟨.inl ⟨by rw [wanted_ok hF]; exact hw, g2⟩, g3⟩
theorem chkV_ok {o : Op} {fr : Fr} {v : AV} {h : H} (e : chkV C o fr v h = true) : lightV C o fr h = .ok v := by
  unfold chkV at e
  cases hv : lightV C o fr h with
  | err l => rw [hv] at e; cases e
  | ok v' =>
    rw [hv] at e
    rw [avEq_ok v v' e]
/-- One more of the plan's light operations is foreseen. -/
theorem Sim.foresee {L : Nat} {K KA : List (Nat × Oper)} {D : List Pd} {pe pe' : List PE} {ι : Inj} {h : H} {w : World} {a : Act} {listed : Array Bool} {fr fr' : Fr}
    (s : Sim C P ops r B ι0 h0 w0 L K KA D pe ι h w a listed fr) {i : Nat} {o : Oper} {u : Value} {c : H → Bool} (ho : ops[i]? = some o) (hL : L.testBit i = false) (hp : ∀ p, Pre o p → L.testBit p = true)
    (hK : ∀ x ∈ K, MB ops x.1 o ∨ x.2.apart ops o = true) (hl : lightE C o.op = true) (hF : FrR ι h fr' ((putsD a D).put o.dst u) r) (hcur : ∀ w', R B ι h w' → Lt P ops o (putsD a D) w' u)
    (hrec : ∀ ι' h' w', R B ι' h' w' → Glob ι' h' → h.n ≤ h'.n → (∀ b, b < h.n → ι' b = ι b) → c h' = true → Lt P ops o (putsD a D) w' u)
    (hpe : (∀ h', c h' = true) ∨ PE.mk i c ∈ pe') (hsub : ∀ x ∈ pe, x ∈ pe') : Sim C P ops r B ι0 h0 w0 (Nat.lor L (bitM i)) ((i, o) :: K) ((i, o) :: KA) (D ++ [⟨i, o, u, c⟩]) pe' ι h w a listed fr' := by
  have hi : i < ops.size := (Array.getElem?_eq_some_iff.1 ho).1
  have hiL : ¬ (listed.getD i false = true ∨ ∃ d ∈ D, d.i = i) := fun hx => by rw [(s.lst i).2 hx] at hL; cases hL
  exact {
    G0 := s.G0
    S := s.S
    F := by rw [putsD_append]; exact hF
    size := s.size
    lst := fun j => by
      rw [testBit_lor, testBit_bitM, Bool.or_eq_true, s.lst j]
      constructor
      · rintro ((h | ⟨d, hd, h⟩) | h)
        · exact .inl h
        · exact .inr ⟨d, List.mem_append_left _ hd, h⟩
        · exact .inr ⟨_, List.mem_append_right _ (List.mem_singleton.2 rfl), by simpa using h⟩
      · rintro (h | ⟨d, hd, h⟩)
        · exact .inl (.inl h)
        · rcases List.mem_append.1 hd with hd | hd
          · exact .inl (.inr ⟨d, hd, h⟩)
          · rw [List.mem_singleton.1 hd] at h
            exact .inr (by simpa using h)
    dis := fun d hd => by
      rcases List.mem_append.1 hd with hd | hd
      · exact s.dis d hd
      · rw [List.mem_singleton.1 hd]
        have h1 : listed.getD i false = false := by
          cases hx : listed.getD i false with
          | false => rfl
          | true => exact absurd (.inl hx) hiL
        have : i < listed.size := by rw [s.size]; exact hi
        simpa [Array.getD_eq_getD_getElem?, this] using h1
    oper := fun d hd => by
      rcases List.mem_append.1 hd with hd | hd
      · exact s.oper d hd
      · rw [List.mem_singleton.1 hd]; exact ho
    lit := fun d hd => by
      rcases List.mem_append.1 hd with hd | hd
      · exact s.lit d hd
      · rw [List.mem_singleton.1 hd]; exact hl
    inK := fun d hd => by
      rcases List.mem_append.1 hd with hd | hd
      · exact List.mem_cons_of_mem _ (s.inK d hd)
      · rw [List.mem_singleton.1 hd]; exact List.mem_cons_self ..
    inA := fun d hd => by
      rcases List.mem_append.1 hd with hd | hd
      · exact List.mem_cons_of_mem _ (s.inA d hd)
      · rw [List.mem_singleton.1 hd]; exact List.mem_cons_self ..
    down := s.down
    ord := by
      rw [Ords.append]
      exact ⟨s.ord, fun p hp' => (s.lst p).1 (hp p hp'), trivial⟩
    pair := by
      rw [List.pairwise_append]
      refine ⟨s.pair, List.pairwise_singleton _ _, fun d hd e he => ?_⟩
      rw [List.mem_singleton.1 he]
      exact ⟨fun hx => hiL (.inr ⟨d, hd, hx⟩), hK _ (s.inK d hd)⟩
    cur := (Walk.append _ _ _).2 ⟨s.cur, hcur, trivial⟩
    rc := (Walk.append _ _ _).2 ⟨s.rc, hrec, trivial⟩
    pend := fun d hd => by
      rcases List.mem_append.1 hd with hd | hd
      · exact (s.pend d hd).imp id (hsub _)
      · rw [List.mem_singleton.1 hd]; exact hpe }

/-- A light operation at the plan's head is foreseen. -/
theorem Sim.light1 (hC : CxOk C P) {call : FuncId → List AV → H → E (AV × H)} {round : Nat → List AV → H → E (AV × H)} {q : Fr × H} {ι : Inj} {h : H} {w : World} {a : Act} {listed : Array Bool} {i : Nat} {o : Oper} {b : Bool} {rest : Pl}
    {L : Nat} {K KA : List (Nat × Oper)} {D : List Pd} {pe : List PE} {fr : Fr} (h1 : PlOk C ops (.light i o b rest) L K KA) (e : runPl C call round ops.toList (.light i o b rest) pe fr h = .ok q) (s : Sim C P ops r B ι0 h0 w0 L K KA D pe ι h w a listed fr) :
    ∃ D' pe' fr', PlOk C ops rest (Nat.lor L (bitM i)) ((i, o) :: K) ((i, o) :: KA) ∧ runPl C call round ops.toList rest pe' fr' h = .ok q ∧ Sim C P ops r B ι0 h0 w0 (Nat.lor L (bitM i)) ((i, o) :: K) ((i, o) :: KA) D' pe' ι h w a listed fr' := by
  obtain ⟨p1, p2, p3, p4, p5, p6, p7⟩ := h1
  have hG := Glob.step s.S s.G0
  have e : ite' (wantedV ops.toList fr o)
    ((lightV C o.op fr h).bd fun v => putF fr o.dst v fun fr' => nx (runPl C call round ops.toList rest (ite' b pe (.mk i (chkV C o.op fr v) :: pe)) fr' h))
    (putF fr o.dst (.tup []) fun fr' => nx (runPl C call round ops.toList rest pe fr' h)) = .ok q := e
  have hwd := wanted_ok s.F ops o
  cases hw : wantedV ops.toList fr o with
  | true =>
    rw [hw, ite'_true] at e
    obtain ⟨v, e1, e2⟩ := E.bd_eq_ok e
    obtain ⟨g1, g2⟩ := Lt.of_light hC s.S.rel s.F hG p5 hw e1
    obtain ⟨fr', e3, e4⟩ := putF_ok s.F g2 e2
    rw [nx_eq] at e3
    refine ⟨_, _, _, p7, e3, s.foresee (c := ite' b (fun _ => true) (chkV C o.op fr v)) p1 p2 p3 p4 p5 e4 (fun w' hR' => (Lt.of_light hC hR' s.F hG p5 hw e1).1) (fun ι' h' w' hR' hG' hn hι hc => ?_) ?_ fun x hx => ?_⟩
    · have hv : lightV C o.op fr h' = .ok v := by
        cases b with
        | false => exact chkV_ok hc
        | true =>
          obtain ⟨h2, k1⟩ := lightV_ok e1
          obtain ⟨v', k2, k3⟩ := blind_ok (p6 rfl) k1
          injection k2 with k2 k4
          subst k2
          show (opE o.op C fr h').bd nxV = _
          rw [k3 h']
          rfl
      have := (Lt.of_light hC hR' (s.F.more hn hι) hG' p5 hw hv).1
      rw [conc_ext hι v g2] at this
      exact this
    · cases b with
      | true => exact .inl fun _ => rfl
      | false => exact .inr (List.mem_cons_self ..)
    · cases b with
      | true => exact hx
      | false => exact List.mem_cons_of_mem _ hx
  | false =>
    rw [hw, ite'_false] at e
    obtain ⟨fr', e3, e4⟩ := putF_ok (v := .tup []) s.F trivial e
    rw [nx_eq] at e3
    have hlt : ∀ w', Lt P ops o (putsD a D) w' undef := fun w' => .inr ⟨by rw [hwd]; exact hw, rfl⟩
    exact ⟨_, _, _, p7, e3, s.foresee (c := fun _ => true) p1 p2 p3 p4 p5 e4 (fun w' _ => hlt w') (fun _ _ w' _ _ _ _ _ => hlt w') (.inl fun _ => rfl) fun x hx => hx⟩

theorem lt_wp {n : Nat} {Q : Exit → Act → World → Prop} {K : Act → World → Prop} {i : Nat} {o : Oper} {a : Act} {w : World} {u : Value} (ho : ops[i]? = some o) (hl : lightE C o.op = true) (h : Lt P ops o a w u) (hk : K (a.put o.dst u) w) :
    wpOpIn (FW r) n P ops Q i K a w := by
  unfold wpOpIn
  rw [ho]
  rcases h with ⟨hw, hr⟩ | ⟨hw, rfl⟩
  · simp only [hw, if_true]
    refine ⟨fun _ _ => trivial, ?_⟩
    show o.uponIn (FW r) n P a K Q ((o.semAt r a.eval).run P w)
    rw [Oper.semAt_eq _ _ _ (light_ns hl).2, hr]
    exact hk
  · simp only [hw, Bool.false_eq_true, if_false]
    exact ⟨fun _ _ => trivial, hk⟩
theorem getD_lt {listed : Array Bool} {i : Nat} (h : listed.getD i true = false) : i < listed.size ∧ listed.getD i false = false := by
  rcases Nat.lt_or_ge i listed.size with h' | h'
  · exact ⟨h', by simpa [Array.getD_eq_getD_getElem?, h'] using h⟩
  · simp [Array.getD_eq_getD_getElem?, Array.getElem?_eq_none h'] at h
theorem getD_set_iff {listed : Array Bool} {i j : Nat} (hi : i < listed.size) : (listed.setIfInBounds i true).getD j false = true ↔ (listed.getD j false = true ∨ j = i) := by
  by_cases hij : i = j
  · subst hij
    simp [hi]
  · rw [getD_set_ne false hij]
    exact ⟨.inl, fun h => h.elim id fun h => absurd h.symm hij⟩
/-- An operation that was foreseen is done. -/
theorem Sim.doneD {L : Nat} {K KA : List (Nat × Oper)} {D1 D2 : List Pd} {d : Pd} {pe : List PE} {ι : Inj} {h : H} {w : World} {a : Act} {listed : Array Bool} {fr : Fr}
    (s : Sim C P ops r B ι0 h0 w0 L K KA (D1 ++ d :: D2) pe ι h w a listed fr) (hr : ∀ p, Pre d.o p → listed.getD p false = true) :
    Lt P ops d.o a w d.u ∧ Sim C P ops r B ι0 h0 w0 L K KA (D1 ++ D2) pe ι h w (a.put d.o.dst d.u) (listed.setIfInBounds d.i true) fr := by
  have hd : d ∈ D1 ++ d :: D2 := List.mem_append_right _ (List.mem_cons_self ..)
  have hsub : ∀ x ∈ D1 ++ D2, x ∈ D1 ++ d :: D2 := fun x hx => by
    rcases List.mem_append.1 hx with hx | hx
    · exact List.mem_append_left _ hx
    · exact List.mem_append_right _ (List.mem_cons_of_mem _ hx)
  have hp := List.pairwise_append.1 s.pair
  have hp2 := List.pairwise_cons.1 hp.2.1
  have hne : ∀ x ∈ D1 ++ D2, x.i ≠ d.i := fun x hx => by
    rcases List.mem_append.1 hx with hx | hx
    · exact (hp.2.2 x hx d (List.mem_cons_self ..)).1
    · exact fun he => (hp2.1 x hx).1 he.symm
  have hap : ∀ x ∈ D1, x.o.apart ops d.o = true := fun x hx => by
    rcases (hp.2.2 x hx d (List.mem_cons_self ..)).2 with hmb | h
    · have h1 := hmb (fun j => listed.getD j false = true) (fun j oj hj hS p hp => s.down j oj hj hS p hp) hr
      have h2 := (getD_lt (s.dis x (List.mem_append_left _ hx))).2
      simp only [h2] at h1
      cases h1
    · exact h
  have hbd : d.i < listed.size := (getD_lt (s.dis d hd)).1
  have hcomm : ∀ x ∈ D1, ∀ t, d.o.dst = some t → x.o.dst ≠ some t := fun x hx t ht hx' => (Oper.apart_spec (hap x hx)).2.1 t hx' ht
  have hputs : putsD (a.put d.o.dst d.u) D1 = (putsD a D1).put d.o.dst d.u := putsD_put D1 a hcomm
  have hall : putsD (a.put d.o.dst d.u) (D1 ++ D2) = putsD a (D1 ++ d :: D2) := by
    rw [putsD_append, hputs, putsD_append]; rfl
  have hcur := (Walk.append _ _ _).1 s.cur
  have hrec := (Walk.append _ _ _).1 s.rc
  constructor
  · have h1 : Lt P ops d.o (putsD a D1) w d.u := hcur.2.1 w s.S.rel
    have : ∀ (E : List Pd) (a : Act), (∀ x ∈ E, x.o.apart ops d.o = true) → Lt P ops d.o (putsD a E) w d.u → Lt P ops d.o a w d.u := by
      intro E
      induction E with
      | nil => intro a _ h; exact h
      | cons x E ih =>
        intro a hE h
        exact Lt.unput (s.lit d hd) (Oper.apart_spec (hE x (List.mem_cons_self ..))).1 (ih _ (fun y hy => hE y (List.mem_cons_of_mem _ hy)) h)
    exact this D1 a hap h1
  · exact {
      G0 := s.G0
      S := s.S
      F := by rw [hall]; exact s.F
      size := by rw [Array.size_setIfInBounds]; exact s.size
      lst := fun j => by
        rw [s.lst j, getD_set_iff hbd]
        constructor
        · rintro (h | ⟨x, hx, rfl⟩)
          · exact .inl (.inl h)
          · rcases List.mem_append.1 hx with hx | hx
            · exact .inr ⟨x, List.mem_append_left _ hx, rfl⟩
            · rcases List.mem_cons.1 hx with rfl | hx
              · exact .inl (.inr rfl)
              · exact .inr ⟨x, List.mem_append_right _ hx, rfl⟩
        · rintro ((h | h) | ⟨x, hx, h⟩)
          · exact .inl h
          · exact .inr ⟨d, hd, h.symm⟩
          · exact .inr ⟨x, hsub x hx, h⟩
      dis := fun x hx => by
        rw [getD_set_ne true (hne x hx).symm]
        exact s.dis x (hsub x hx)
      oper := fun x hx => s.oper x (hsub x hx)
      lit := fun x hx => s.lit x (hsub x hx)
      inK := fun x hx => s.inK x (hsub x hx)
      inA := fun x hx => s.inA x (hsub x hx)
      down := fun j oj hj hl p hp => by
        rw [getD_set_iff hbd] at hl ⊢
        rcases hl with hl | rfl
        · exact .inl (s.down j oj hj hl p hp)
        · have : oj = d.o := Option.some.inj (hj.symm.trans (s.oper d hd))
          subst this
          exact .inl (hr p hp)
      ord := Ords.mono _ _ _ (fun j hj => (getD_set_iff hbd).2 hj) (Ords.take D1 _ s.ord)
      pair := List.pairwise_append.2 ⟨hp.1, hp2.2, fun x hx y hy => hp.2.2 x hx y (List.mem_cons_of_mem _ hy)⟩
      cur := (Walk.append _ _ _).2 ⟨Walk.put D1 a (fun x hx => ⟨fun a h w' hw' => (h w' hw').put (s.lit x (List.mem_append_left _ hx)) (Oper.apart_spec (hap x hx)).2.2, hcomm x hx⟩) hcur.1, by rw [hputs]; exact hcur.2.2⟩
      rc := (Walk.append _ _ _).2 ⟨Walk.put D1 a (fun x hx => ⟨fun a h ι' h' w' q1 q2 q3 q4 q5 => (h ι' h' w' q1 q2 q3 q4 q5).put (s.lit x (List.mem_append_left _ hx)) (Oper.apart_spec (hap x hx)).2.2, hcomm x hx⟩) hrec.1, by rw [hputs]; exact hrec.2.2⟩
      pend := fun x hx => s.pend x (hsub x hx) }
end
end Go.Eng
