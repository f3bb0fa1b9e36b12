/- The abstract evaluator: drawn regions, with new variables that come early. -/
import Derived.Test.YtbbojdjgabdjmaaGreatDoorEngSim2
namespace Go.Eng
open Go Go.RowKit

/-- More blocks behind those that are. -/
theorem Stp.grow {B : Nat} {ι0 ι : Inj} {h0 h : H} {w0 w : World} (s : Stp B ι0 ι h0 h w0 w) (o' : Obj) : Stp B ι0 ι h0 h w0 (w.alloc o') := by
  have hsz : (w.alloc o').heap.size = w.heap.size + 1 := by show (w.heap.push o').size = _; rw [Array.size_push]
  have hlt : ∀ k, k < w.heap.size → (w.alloc o').heap[k]? = w.heap[k]? := fun k hk => alloc_lt w o' k hk
  exact {
    le := s.le
    ext := s.ext
    rel := {
      n := s.rel.n
      obj := fun b hb => (s.rel.obj b hb).ext (Nat.le_refl _) (fun _ _ => rfl) fun hl => hlt _ (s.rel.lt b hb hl)
      inj := s.rel.inj
      own := s.rel.own
      sz := by have := s.rel.sz; omega
      lt := fun b hb hl => by have := s.rel.lt b hb hl; omega }
    keep := fun k hk hn => by
      have := s.size
      rw [hlt k (by omega), s.keep k hk hn]
    own := s.own
    os := s.os
    tape := s.tape
    output := s.output
    size := by have := s.size; omega
    fresh := s.fresh }
/-- A block that was laid since is named. -/
theorem Stp.adopt {B : Nat} {ι0 ι : Inj} {h0 h h' : H} {w0 w : World} {L : Loc} (s : Stp B ι0 ι h0 h w0 w) (hlt : h.n < 32760) (hn : h'.n = h.n + 1) (hat : ∀ b', b' < h.n → h'.at b' = h.at b') (hB : B ≤ w0.heap.size)
    (hge : w0.heap.size ≤ L.blk) (hL : L.blk < w.heap.size) (hno : ∀ b, b < h.n → live (h.at b) = true → (ι b).blk ≠ L.blk) (ho : ObjR (setI ι h.n L) (h.n + 1) L w (h'.at h.n)) : Stp B ι0 (setI ι h.n L) h0 h' w0 w where
  le := by have := s.le; omega
  ext := fun b hb => by
    have := s.le
    rw [setI_ne (by omega), s.ext b (by omega)]
  rel := {
    n := by omega
    obj := fun b' hb' => by
      rw [hn]
      by_cases e : b' = h.n
      · subst e; rw [setI_same]; exact ho
      · rw [hat b' (by omega), setI_ne e]
        exact (s.rel.obj b' (by omega)).ext (by omega) (fun b hb => setI_ne (by omega)) fun hl => rfl
    inj := fun b1 b2 h1 h2 l1 l2 e => by
      rw [hn] at h1 h2
      by_cases e1 : b1 = h.n <;> by_cases e2 : b2 = h.n
      · omega
      · rw [hat b2 (by omega)] at l2
        rw [e1, setI_same, setI_ne e2] at e
        exact absurd e.symm (hno b2 (by omega) l2)
      · rw [hat b1 (by omega)] at l1
        rw [e2, setI_same, setI_ne e1] at e
        exact absurd e (hno b1 (by omega) l1)
      · rw [hat b1 (by omega)] at l1
        rw [hat b2 (by omega)] at l2
        rw [setI_ne e1, setI_ne e2] at e
        exact s.rel.inj b1 b2 (by omega) (by omega) l1 l2 e
    own := fun k ⟨b', hb', hw', e⟩ => by
      by_cases e' : b' = h.n
      · rw [e', setI_same] at e; omega
      · rw [hat b' (by omega)] at hw'; rw [setI_ne e'] at e
        exact s.rel.own k ⟨b', by omega, hw', e⟩
    sz := s.rel.sz
    lt := fun b' hb' hl => by
      by_cases e' : b' = h.n
      · rw [e', setI_same]; exact hL
      · rw [hat b' (by omega)] at hl; rw [setI_ne e']
        exact s.rel.lt b' (by omega) hl }
  keep := s.keep
  own := fun k hk ⟨b', hb', hw', e⟩ => by
    by_cases e' : b' = h.n
    · rw [e', setI_same] at e; omega
    · rw [hat b' (by omega)] at hw'; rw [setI_ne e'] at e
      exact s.own k hk ⟨b', by omega, hw', e⟩
  os := s.os
  tape := s.tape
  output := s.output
  size := s.size
  fresh := fun b' hb' hl hlt' => by
    by_cases e' : b' = h.n
    · rw [e', setI_same] at hlt'; omega
    · rw [setI_ne e'] at hlt' ⊢
      rw [hat b' (by omega)] at hl
      exact s.fresh b' (by omega) hl hlt'

/-- A new variable that came ahead of its place in the plan. -/
structure Ea where
  i : Nat
  o : Oper
  el : TypeId
  z : AV
  k : Nat
def Ea.v (e : Ea) : Value := .pointer (some ⟨e.k, 0, none⟩)
def putsE (a : Act) (E : List Ea) : Act := E.foldl (fun a e => a.put e.o.dst e.v) a
theorem putsE_append (a : Act) (D E : List Ea) : putsE a (D ++ E) = putsE (putsE a D) E := by unfold putsE; rw [List.foldl_append]
theorem putsE_put {dst : Option Tmp} {v : Value} : ∀ (E : List Ea) (a : Act), (∀ e ∈ E, ∀ t, dst = some t → e.o.dst ≠ some t) → putsE (a.put dst v) E = (putsE a E).put dst v := by
  intro E
  induction E with
  | nil => intro a _; rfl
  | cons d E ih =>
    intro a h
    show putsE ((a.put dst v).put d.o.dst d.v) E = (putsE (a.put d.o.dst d.v) E).put dst v
    rw [Act.put_comm a v d.v (h d (List.mem_cons_self ..))]
    exact ih _ fun e he => h e (List.mem_cons_of_mem _ he)
section
variable {P : Program} {ops : Array Oper} {C : Cx}
theorem wanted_putsE {o : Oper} : ∀ (E : List Ea) (a : Act), (∀ e ∈ E, o.apart ops e.o = true) → Region.wanted o (yielded ops (putsE a E).tmps) = Region.wanted o (yielded ops a.tmps) := by
  intro E
  induction E with
  | nil => intro a _; rfl
  | cons d E ih =>
    intro a h
    show Region.wanted o (yielded ops (putsE (a.put d.o.dst d.v) E).tmps) = _
    rw [ih _ fun e he => h e (List.mem_cons_of_mem _ he), wanted_put o a _ _ (Oper.apart_spec (h d (List.mem_cons_self ..))).2.2]
theorem execOp_putsE {o : Oper} (hs : ∀ cs b, o.op ≠ .select cs b) : ∀ (E : List Ea) (a : Act), (∀ e ∈ E, o.apart ops e.o = true) → execOp (putsE a E).eval o = execOp a.eval o := by
  intro E
  induction E with
  | nil => intro a _; rfl
  | cons d E ih =>
    intro a h
    show execOp (putsE (a.put d.o.dst d.v) E).eval o = _
    rw [ih _ fun e he => h e (List.mem_cons_of_mem _ he), execOp_put o hs a _ _ (Oper.apart_spec (h d (List.mem_cons_self ..))).2.2]
theorem Lt.putsE {o : Oper} (hl : lightE C o.op = true) {w : World} {u : Value} : ∀ (E : List Ea) (a : Act), (∀ e ∈ E, o.apart ops e.o = true) → Lt P ops o a w u → Lt P ops o (putsE a E) w u := by
  intro E
  induction E with
  | nil => intro a _ h; exact h
  | cons d E ih =>
    intro a h hlt
    exact ih _ (fun e he => h e (List.mem_cons_of_mem _ he)) (hlt.put hl (Oper.apart_spec (h d (List.mem_cons_self ..))).2.2)
end
def ιz : Inj := fun _ => ⟨0, 0, 0⟩
structure Early (C : Cx) (ops : Array Oper) (w0 : World) (L : Nat) (E : List Ea) (ι : Inj) (h : H) (w : World) (a0 a : Act) (listed0 listed : Array Bool) : Prop where
  act : a = putsE a0 E
  size : listed.size = ops.size
  lst : ∀ j, listed.getD j false = true ↔ (listed0.getD j false = true ∨ ∃ e ∈ E, e.i = j)
  op : ∀ e ∈ E, ops[e.i]? = some e.o
  isA : ∀ e ∈ E, allocE C e.o = true
  opE : ∀ e ∈ E, e.o.op = .alloc e.el ∧ zeroV C e.el = .ok e.z
  notL : ∀ e ∈ E, L.testBit e.i = false
  pre : ∀ e ∈ E, ∀ p, Pre e.o p → listed.getD p false = true
  blk : ∀ e ∈ E, w.heap[e.k]? = some (.cells (concL ιz (cellsV e.z)).toArray e.el (0, 0))
  ge : ∀ e ∈ E, w0.heap.size ≤ e.k
  lt : ∀ e ∈ E, e.k < w.heap.size
  nol : ∀ e ∈ E, ∀ b, b < h.n → live (h.at b) = true → (ι b).blk ≠ e.k
  prw : E.Pairwise fun f e => f.i ≠ e.i ∧ f.k ≠ e.k ∧ ¬ MB ops e.i f.o
  down : ∀ j oj, ops[j]? = some oj → listed.getD j false = true → ∀ p, Pre oj p → listed.getD p false = true
section
variable {C : Cx} {P : Program} {ops : Array Oper} {r : Option Nat} {B : Nat} {ι0 : Inj} {h0 : H} {w0 : World}
/-- What went ahead in the plan, and is not done yet, does not meet those that came early. -/
theorem Early.apart {L : Nat} {K KA : List (Nat × Oper)} {E : List Ea} {ι : Inj} {h : H} {w : World} {a0 a : Act} {listed0 listed : Array Bool} {pl : Pl} (y : Early C ops w0 L E ι h w a0 a listed0 listed) (hp : PlOk C ops pl L K KA)
    {i : Nat} {o : Oper} (hK : (i, o) ∈ KA) (hl : listed.getD i false = false) : ∀ e ∈ E, o.apart ops e.o = true := fun e he => by
  rcases PlOk.later (y.op e he) (y.isA e he) pl L K KA hp (y.notL e he) (i, o) hK with hmb | h
  · have h1 := hmb (fun j => listed.getD j false = true) (fun j oj hj hS p hp => y.down j oj hj hS p hp) (y.pre e he)
    simp only [hl] at h1
    cases h1
  · exact h
section
variable (hC : CxOk C P) {call : FuncId → List AV → H → E (AV × H)} {round : Nat → List AV → H → E (AV × H)}
include hC
/-- The plan is brought to where it waits for the machine. -/
theorem norm {q : Fr × H} {w : World} {a : Act} {listed : Array Bool} (hB : B ≤ w0.heap.size) : ∀ (pl : Pl) (L : Nat) (K KA : List (Nat × Oper)) (D : List Pd) (pe : List PE) (E : List Ea) (ι : Inj) (h : H) (a0 : Act) (listed0 : Array Bool) (fr : Fr),
    PlOk C ops pl L K KA → runPl C call round ops.toList pl pe fr h = .ok q → Sim C P ops r B ι0 h0 w0 L K KA D pe ι h w a0 listed0 fr → Early C ops w0 L E ι h w a0 a listed0 listed →
    ∃ pl' L' K' KA' D' pe' E' ι' h' a0' listed0' fr', (∀ i o b rest, pl' ≠ .light i o b rest) ∧ (∀ i o m rest, pl' = .heavy i o m rest → ∀ e ∈ E', e.i ≠ i) ∧ PlOk C ops pl' L' K' KA' ∧ runPl C call round ops.toList pl' pe' fr' h' = .ok q ∧
      Sim C P ops r B ι0 h0 w0 L' K' KA' D' pe' ι' h' w a0' listed0' fr' ∧ Early C ops w0 L' E' ι' h' w a0' a listed0' listed := by
  intro pl
  induction pl with
  | done => intro L K KA D pe E ι h a0 listed0 fr h1 h2 s y; exact ⟨_, L, K, KA, D, pe, E, ι, h, a0, listed0, fr, fun _ _ _ _ h => (by cases h), fun _ _ _ _ h => (by cases h), h1, h2, s, y⟩
  | light i o b rest ih =>
    intro L K KA D pe E ι h a0 listed0 fr h1 h2 s y
    obtain ⟨D', pe', fr', g1, g2, g3⟩ := s.light1 hC h1 h2
    refine ih _ _ _ _ _ E _ _ _ _ _ g1 g2 g3 { y with notL := fun e he => ?_ }
    have hne : i ≠ e.i := fun hx => by
      have h5 := h1.2.2.2.2.1
      have : o = e.o := Option.some.inj (h1.1.symm.trans (by rw [hx]; exact y.op e he))
      rw [this, (y.opE e he).1] at h5
      cases h5
    rw [testBit_lor, y.notL e he, testBit_bitM]
    simp [hne]
  | heavy i o m rest ih =>
    intro L K KA D pe E ι h a0 listed0 fr h1 h2 s y
    by_cases hex : ∃ e ∈ E, e.i = i
    case neg => exact ⟨_, L, K, KA, D, pe, E, ι, h, a0, listed0, fr, fun _ _ _ _ h => (by cases h), fun i' o' m' rest' hx e he hi => hex ⟨e, he, by injection hx with hx; rw [hx]; exact hi⟩, h1, h2, s, y⟩
    obtain ⟨e, he, hei⟩ := hex
    obtain ⟨p1, p2, p3, p4, p5, p6, p7, p8⟩ := h1
    have hoe : o = e.o := Option.some.inj (p1.symm.trans (by rw [← hei]; exact y.op e he))
    obtain ⟨E1, E2, rfl⟩ := List.append_of_mem he
    obtain ⟨hop, hzv⟩ := y.opE e he
    obtain ⟨hgd, _⟩ := allocE_spec (y.isA e he)
    have hw : wantedV ops.toList fr o = true := by unfold wantedV; rw [hoe, hgd]
    have h2' : ite' (wantedV ops.toList fr o)
      ((oneV C call round fr h o).bd2 fun v h' => putF fr o.dst v fun fr' => dropM m pe fun pe => recheck pe h' (nx (runPl C call round ops.toList rest pe fr' h')))
      (putF fr o.dst (.tup []) fun fr' => nx (runPl C call round ops.toList rest pe fr' h)) = .ok q := h2
    rw [hw, ite'_true] at h2'
    obtain ⟨v, h1', e1, e2⟩ := E.bd2_eq_ok h2'
    obtain ⟨x, e3, e4⟩ := E.bd_eq_ok e1
    rw [hoe, hop] at e3
    obtain ⟨z, e5, e6⟩ := E.bd_eq_ok (show ((zeroV C e.el).bd fun z => newO h (.cells (cellsV z) e.el false true false) fun b h => E.ok (Nx.val (.ptr b 0) h)) = .ok x from e3)
    rw [hzv] at e5
    injection e5 with e5
    obtain ⟨hh, m1, m2, m3, m4, m5⟩ := newO_ok e6
    injection m1 with m1
    subst m1
    have e4 : (E.ok (AV.ptr h.n 0, hh) : E (AV × H)) = .ok (v, h1') := e4
    injection e4 with e4
    injection e4 with e4 e4'
    subst e4 e4'
    subst e5
    have hG := Glob.step s.S s.G0
    obtain ⟨_, z2, _, _⟩ := zeroV_ok hC hzv ιz 0
    have hok0 : okL ιz 0 (cellsV e.z) := okL_cells z2
    have hconc : ∀ ι', concL ι' (cellsV e.z) = concL ιz (cellsV e.z) := fun ι' => concL_ext (n := 0) (fun b hb => absurd hb (by omega)) _ hok0
    have hob : ObjR (setI ι h.n ⟨e.k, 0, (cellsV e.z).length⟩) (h.n + 1) ⟨e.k, 0, (cellsV e.z).length⟩ w (hh.at h.n) := by
      rw [m4]
      refine ⟨(concL ιz (cellsV e.z)).toArray, 0, 0, y.blk e he, by simp, Nat.le_refl _, fun _ => rfl, fun i v hv => ?_, okL_ext (Nat.zero_le _) (fun b hb => absurd hb (by omega)) _ hok0, fun _ => ⟨rfl, rfl⟩, fun _ i _ => by omega, fun _ _ => ⟨rfl, by simp⟩⟩
      show ((concL ιz (cellsV e.z)).toArray)[0 + i]? = _
      rw [← hconc (setI ι h.n ⟨e.k, 0, (cellsV e.z).length⟩), Nat.zero_add, concL_eq]
      simp [hv]
    have hS := s.S.adopt m2 m3 m5 hB (y.ge e he) (y.lt e he) (y.nol e he) hob
    have hFm := s.F.more (h' := hh) (ι' := setI ι h.n ⟨e.k, 0, (cellsV e.z).length⟩) (by omega) (fun b hb => setI_ne (by omega))
    obtain ⟨fr', e7, e8⟩ := putF_ok hFm (show okV _ hh.n (.ptr h.n 0) by show h.n < hh.n; omega) e2
    obtain ⟨pe', e9, e10⟩ := dropM_ok pe _ e7
    obtain ⟨e11, e12⟩ := chk_ok e9
    rw [nx_eq] at e12
    have hev : conc (setI ι h.n ⟨e.k, 0, (cellsV e.z).length⟩) (.ptr h.n 0) = e.v := by simp only [conc, setI_same, Nat.zero_add]; rfl
    rw [hev] at e8
    have hr0 : ∀ p, Pre o p → listed0.getD p false = true := fun p hp => by
      rcases (y.lst p).1 (y.pre e he p (by rw [← hoe]; exact hp)) with hx | ⟨e', he', hx⟩
      · exact hx
      · have := p3 p hp
        rw [← hx, y.notL e' he'] at this
        cases this
    have hi0 : i < listed0.size := by rw [s.size]; exact (Array.getElem?_eq_some_iff.1 p1).1
    have s' := s.heavy (m := m) ⟨p1, p2, p3, p4, p5, p6, p7, p8⟩ hr0 hS (by omega) (fun b hb => setI_ne (by omega)) e8 e10 (.inl (allB_spec e11))
    have hpw := List.pairwise_append.1 y.prw
    have hpw2 := List.pairwise_cons.1 hpw.2.1
    have hsub : ∀ x ∈ E1 ++ E2, x ∈ E1 ++ e :: E2 := fun x hx => by
      rcases List.mem_append.1 hx with hx | hx
      · exact List.mem_append_left _ hx
      · exact List.mem_append_right _ (List.mem_cons_of_mem _ hx)
    have hne : ∀ x ∈ E1 ++ E2, x.i ≠ i ∧ x.k ≠ e.k := fun x hx => by
      rcases List.mem_append.1 hx with hx | hx
      · have := hpw.2.2 x hx e (List.mem_cons_self ..)
        exact ⟨by rw [← hei]; exact this.1, this.2.1⟩
      · have := hpw2.1 x hx
        exact ⟨by rw [← hei]; exact this.1.symm, this.2.1.symm⟩
    have hnL : ∀ x ∈ E1 ++ E2, (Nat.lor L (bitM i)).testBit x.i = false := fun x hx => by
      rw [testBit_lor, y.notL x (hsub x hx), testBit_bitM]
      simp [(hne x hx).1.symm]
    have hcomm : ∀ x ∈ E1, ∀ t, o.dst = some t → x.o.dst ≠ some t := fun x hx t ht hx' => by
      rcases PlOk.later (y.op x (hsub x (List.mem_append_left _ hx))) (y.isA x (hsub x (List.mem_append_left _ hx))) rest _ _ _ p8 (hnL x (List.mem_append_left _ hx)) (i, o) (List.mem_cons_self ..) with hmb | hap
      · exact (hpw.2.2 x hx e (List.mem_cons_self ..)).2.2 (by rw [hei]; exact hmb)
      · exact (Oper.apart_spec hap).2.1 t ht hx'
    refine ih _ _ _ _ _ (E1 ++ E2) _ _ _ _ _ p8 e12 s' {
      act := by
        rw [y.act, putsE_append, putsE_append, putsE_put E1 a0 hcomm, hoe]
        rfl
      size := y.size
      lst := fun j => by
        rw [y.lst j, getD_set_iff hi0]
        constructor
        · rintro (h | ⟨x, hx, rfl⟩)
          · exact .inl (.inl h)
          · rcases List.mem_append.1 hx with hx | hx
            · exact .inr ⟨x, List.mem_append_left _ hx, rfl⟩
            · rcases List.mem_cons.1 hx with rfl | hx
              · exact .inl (.inr hei)
              · exact .inr ⟨x, List.mem_append_right _ hx, rfl⟩
        · rintro ((h | h) | ⟨x, hx, h⟩)
          · exact .inl h
          · exact .inr ⟨e, he, by rw [hei, h]⟩
          · exact .inr ⟨x, hsub x hx, h⟩
      op := fun x hx => y.op x (hsub x hx)
      isA := fun x hx => y.isA x (hsub x hx)
      opE := fun x hx => y.opE x (hsub x hx)
      notL := hnL
      pre := fun x hx => y.pre x (hsub x hx)
      blk := fun x hx => y.blk x (hsub x hx)
      ge := fun x hx => y.ge x (hsub x hx)
      lt := fun x hx => y.lt x (hsub x hx)
      nol := fun x hx b hb hl => by
        by_cases hbn : b = h.n
        · rw [hbn, setI_same]; exact (hne x hx).2.symm
        · rw [setI_ne hbn]
          rw [m5 b (by omega)] at hl
          exact y.nol x (hsub x hx) b (by omega) hl
      prw := List.pairwise_append.2 ⟨hpw.1, hpw2.2, fun x hx z hz => hpw.2.2 x hx z (List.mem_cons_of_mem _ hz)⟩
      down := y.down }
end
end
end Go.Eng
