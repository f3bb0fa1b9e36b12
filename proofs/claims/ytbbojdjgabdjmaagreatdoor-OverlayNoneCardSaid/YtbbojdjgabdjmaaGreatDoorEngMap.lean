/- The abstract evaluator, soundness 8: maps. -/
import Derived.Test.YtbbojdjgabdjmaaGreatDoorEngEff2
import Derived.Laws.RangeString
import Derived.MapKept
namespace Go.Eng
open Go Go.RowKit

theorem map_eraseIdx' {α β : Type} (f : α → β) : ∀ (l : List α) (i : Nat), (l.map f).eraseIdx i = (l.eraseIdx i).map f
  | [], _ => rfl
  | _ :: _, 0 => rfl
  | a :: l, i + 1 => by simp [map_eraseIdx' f l i]
theorem memN_eq (l : List Nat) (n : Nat) : l.contains n = memN l n := by
  induction l with
  | nil => rfl
  | cons a l ih =>
    rw [List.contains_cons, ih]
    show _ = ite' (Nat.beq a n) true (memN l n)
    by_cases ha : a = n
    · rw [beq_t ha]; simp [ha]
    · rw [beq_f ha]
      simp only [ite'_false]
      rw [show (n == a) = false from by simpa using Ne.symm ha, Bool.false_or]
def noCells : Obj → Bool
  | .cells .. => false
  | _ => true
theorem run_getObj {P : Program} {w : World} {r : Nat} {o : Obj} (hb : w.heap[r]? = some o) (hc : noCells o = true := by rfl) : (getObj r).run P w = .ok o w := by
  cases o <;> first | (cases hc; done) | simp [getObj, Sem.run, hb]
theorem run_setObj {P : Program} {w : World} {r : Nat} {o : Obj} (o' : Obj) (hb : w.heap[r]? = some o) (hc : noCells o = true := by rfl) : (setObj r o').run P w = .ok () { w with heap := w.heap.setIfInBounds r o' } := by
  cases o <;> first | (cases hc; done) | simp [setObj, Sem.run, hb]
/-- An object is put in another's place: nothing else has moved. -/
theorem Stp.of_put {B : Nat} {ι : Inj} {h h' : H} {w : World} {b : Nat} (o' : Obj) (hr : R B ι h w) (hb : b < h.n) (hn : h'.n = h.n) (hat : ∀ b', b' < h.n → b' ≠ b → h'.at b' = h.at b')
    (hw : wrt (h.at b) = true) (ho : ObjR ι h.n (ι b) { w with heap := w.heap.setIfInBounds (ι b).blk o' } (h'.at b)) : Stp B ι ι h h' w { w with heap := w.heap.setIfInBounds (ι b).blk o' } :=
  Stp.of_set hr hb hn hat hw (fun k hk => by
    show (w.heap.setIfInBounds _ _)[k]? = _
    rw [Array.getElem?_setIfInBounds, if_neg (Ne.symm hk)]) (by simp) ho rfl rfl rfl
theorem put_at {w : World} {k : Nat} {o' : Obj} (hlt : k < w.heap.size) : ({ w with heap := w.heap.setIfInBounds k o' } : World).heap[k]? = some o' := by
  show (w.heap.setIfInBounds _ _)[k]? = _
  simp [hlt]

section
variable {C : Cx} {P : Program} (hC : CxOk C P) {B : Nat} {ι : Inj} {h : H} {w : World} (hR : R B ι h w)
theorem keyEq_eqV {t : TypeId} {a b : AV} {r : Bool} (e : keyEq C h t a b = .ok r) : eqV C h 1 t a b = .ok r := by
  obtain ⟨u, h1, e1⟩ := E.bd_eq_ok e
  show (und C t).bd _ = .ok r
  rw [h1]
  split at e1
  · obtain ⟨h2, e2⟩ := chk_ok e1
    show chk _ _ _ = _
    rw [h2]; exact e2
  · exact e1
  · obtain ⟨n, h2, e2⟩ := E.bd_eq_ok e1
    obtain ⟨h3, e3⟩ := chk_ok e2
    show (sz C _).bd _ = _
    rw [h2]
    show chk _ _ _ = _
    rw [h3]; exact e3
  · cases e1
include hC in
theorem checkKey_ok {t : TypeId} {q : Bool} (e : keyChk C t = .ok q) (b : Bool) (k : Value) : (Instr.checkKey b 10000 t k).run P w = .ok () w := by
  obtain ⟨u, h1, e1⟩ := E.bd_eq_ok e
  show (Instr.checkKey b (9999 + 1) t k).run P w = _
  unfold Instr.checkKey
  simp only [Sem.run_bind, run_und hC h1, Result.andThen_ok]
  split at e1 <;> first | rfl | cases e1
include hR hC
theorem keyEq_run {t : TypeId} {a b : AV} {r : Bool} (ha : okV ι h.n a) (hb : okV ι h.n b) (e : keyEq C h t a b = .ok r) : (Op.equal t (conc ι a) (conc ι b)).run P w = .ok r w := by
  have := eqV_ok hC hR 1 t a b r ha hb (keyEq_eqV e) 10000 (by decide)
  exact this
theorem keyEq_now {t : TypeId} {u : TypeDesc} {a b : AV} {r r' : Bool} (hu : und C t = .ok u) (ha : okV ι h.n a) (hb : okV ι h.n b) (e : keyEq C h t a b = .ok r) (e' : Instr.sameNow u (conc ι a) (conc ι b) = some r') : r' = r := by
  have hrun := keyEq_run hC hR ha hb e
  obtain ⟨u', h1, e1⟩ := E.bd_eq_ok e
  rw [hu] at h1
  injection h1 with h1; subst h1
  split at e1
  · rename_i k x k' y
    obtain ⟨h2, e2⟩ := chk_ok e1
    injection e2 with e2
    have h2 := eq_of_beq h2
    subst h2
    simp only [conc, Instr.sameNow, if_true] at e'
    injection e' with e'
    rw [← e', ← e2]
  · rename_i x y
    simp only [conc, Instr.sameNow] at e'
    injection e' with e'
    have h3 := run_equalIn_string (P := P) w 9999 t (concStr x) (concStr y) (und_ok hC hu)
    have h4 : (Result.ok r w : Result Bool) = .ok ((concStr x).toList == (concStr y).toList) w := hrun.symm.trans h3
    injection h4 with h4
    rw [← e', h4, beq_toListBytes]
  · simp [Instr.sameNow] at e'
  · cases e1

theorem findK_ok {t : TypeId} {u : TypeDesc} {key : AV} (hu : und C t = .ok u) (hk : okV ι h.n key) : ∀ (es : List Ent) (i : Nat) (f : Option (Nat × AV)), (∀ e ∈ es, okE ι h.n e) → findK (keyEq C h t key) es i = .ok f →
    (Instr.findNow u (conc ι key) (es.map (concE ι)) i = none ∨ Instr.findNow u (conc ι key) (es.map (concE ι)) i = some (f.map fun p => (p.1, conc ι p.2))) ∧
    (Instr.findAsking t (conc ι key) (es.map (concE ι)) i).run P w = .ok (f.map fun p => (p.1, conc ι p.2)) w ∧
    (∀ j v, f = some (j, v) → i ≤ j ∧ ∃ e, es[j - i]? = some e ∧ e.v = v ∧ keyEq C h t key e.k = .ok true) := by
  intro es
  induction es with
  | nil =>
    intro i f _ e
    have e : (E.ok none : E (Option (Nat × AV))) = .ok f := e
    injection e with e
    subst e
    exact ⟨.inr rfl, rfl, fun j v hj => by cases hj⟩
  | cons a es ih =>
    intro i f hok e
    obtain ⟨b, h1, e1⟩ := E.bd_eq_ok (show ((keyEq C h t key a.k).bd fun b => ite' b (.ok (some (i, a.v))) (fN (i + 1) fun i => nx (findK (keyEq C h t key) es i))) = .ok f from e)
    have hrun := keyEq_run hC hR hk (hok a (.head _)).1 h1
    have hnow := fun r' h' => keyEq_now hC hR (r' := r') hu hk (hok a (.head _)).1 h1 h'
    cases b with
    | true =>
      simp only [ite'_true] at e1
      injection e1 with e1
      subst e1
      refine ⟨?_, ?_, fun j v hj => ?_⟩
      · rw [List.map_cons]
        simp only [Instr.findNow]
        cases hs : Instr.sameNow u (conc ι key) (concE ι a).key with
        | none => exact .inl rfl
        | some r' => rw [hnow r' hs]; exact .inr rfl
      · show (Instr.findAsking t _ (concE ι a :: es.map (concE ι)) i).run P w = _
        simp only [Instr.findAsking, Sem.run_bind]
        rw [show (concE ι a).key = conc ι a.k from rfl, hrun]
        rfl
      · injection hj with hj
        injection hj with hj hv
        subst hj hv
        exact ⟨Nat.le_refl _, a, by simp, rfl, h1⟩
    | false =>
      simp only [ite'_false, fN_eq, nx_eq] at e1
      obtain ⟨g1, g2, g3⟩ := ih (i + 1) f (fun e he => hok e (.tail _ he)) e1
      refine ⟨?_, ?_, fun j v hj => ?_⟩
      · rw [List.map_cons]
        simp only [Instr.findNow]
        cases hs : Instr.sameNow u (conc ι key) (concE ι a).key with
        | none => exact .inl rfl
        | some r' => rw [hnow r' hs]; exact g1
      · show (Instr.findAsking t _ (concE ι a :: es.map (concE ι)) i).run P w = _
        simp only [Instr.findAsking, Sem.run_bind]
        rw [show (concE ι a).key = conc ι a.k from rfl, hrun]
        exact g2
      · obtain ⟨k1, e, k2, k3⟩ := g3 j v hj
        refine ⟨by omega, e, ?_, k3⟩
        rw [show j - i = (j - (i + 1)) + 1 by omega, List.getElem?_cons_succ]
        exact k2
theorem findKey_ok {t : TypeId} {key : AV} {es : List Ent} {f : Option (Nat × AV)} {q : Bool} (hq : keyChk C t = .ok q) (hk : okV ι h.n key) (hok : ∀ e ∈ es, okE ι h.n e) (e : findK (keyEq C h t key) es 0 = .ok f) :
    (Instr.findKey t (conc ι key) (es.map (concE ι))).run P w = .ok (f.map fun p => (p.1, conc ι p.2)) w ∧ (∀ j v, f = some (j, v) → ∃ e, es[j]? = some e ∧ e.v = v ∧ keyEq C h t key e.k = .ok true) := by
  obtain ⟨u, h1, _⟩ := E.bd_eq_ok hq
  obtain ⟨g1, g2, g3⟩ := findK_ok hC hR h1 hk es 0 f hok e
  refine ⟨?_, fun j v hj => (g3 j v hj).2⟩
  unfold Instr.findKey
  simp only [Sem.run_bind, run_und hC h1, Result.andThen_ok]
  rcases g1 with g1 | g1 <;> rw [g1]
  · exact g2
  · rfl
omit hC in
theorem withMap_ok {β : Type} {r : Nat} {f : List Ent → Nat → E β} {b : β} (e : withMap h r f = .ok b) :
    ∃ es c, r < h.n ∧ h.at r = .map es c ∧ f es c = .ok b ∧ w.heap[(ι r).blk]? = some (.map (es.map (concE ι)).toArray c) ∧ ∀ e ∈ es, okE ι h.n e := by
  obtain ⟨o, h1, e1⟩ := E.bd_eq_ok e
  obtain ⟨h2, h3⟩ := getO_ok h1
  split at e1
  · have := hR.obj r h2
    rw [h3] at this
    exact ⟨_, _, h2, h3, e1, this.1, this.2⟩
  · cases e1
theorem lookV_ok {t : TypeId} {x i v : AV} {ok : Bool} (hi : okV ι h.n i) (e : lookV C t x i ok h = .ok v) :
    (Instr.lookup t (conc ι x) (conc ι i) ok).run P w = .ok (conc ι v) w ∧ okV ι h.n v := by
  obtain ⟨u, h1, e1⟩ := E.bd_eq_ok e; clear e
  split at e1
  case h_2 => cases e1
  rename_i kt et
  obtain ⟨q, h2, e2⟩ := E.bd_eq_ok e1; clear e1
  obtain ⟨f, h3, e3⟩ := E.bd_eq_ok e2; clear e2
  have hend : ∀ (v' : AV) (b : Bool), okV ι h.n v' → conc ι (if ok then AV.tup [v', .bool b] else v') = (if ok then Value.tuple #[conc ι v', .bool b] else conc ι v') ∧ okV ι h.n (if ok then AV.tup [v', .bool b] else v') := by
    intro v' b hv'
    cases ok
    · exact ⟨rfl, hv'⟩
    · exact ⟨rfl, hv', trivial, trivial⟩
  unfold Instr.lookup
  split at h3
  · injection h3 with h3
    subst h3
    simp only [conc, Sem.run_bind, run_und hC h1, Result.andThen_ok, Sem.run_pure, checkKey_ok hC h2]
    obtain ⟨g1, _⟩ := findKey_ok hC hR (es := []) h2 hi (fun _ he => (by cases he)) rfl
    rw [show ([] : List MapEntry) = List.map (concE ι) [] from rfl, g1]
    obtain ⟨z, h4, e4⟩ := E.bd_eq_ok e3; clear e3
    injection e4 with e4
    subst e4
    obtain ⟨z1, z2, _, _⟩ := zeroV_ok hC h4 ι h.n
    obtain ⟨k1, k2⟩ := hend z false z2
    simp only [Option.map_none, Sem.run_bind, z1, Result.andThen_ok, Sem.run_pure]
    exact ⟨by rw [k1], k2⟩
  · obtain ⟨es, c, q1, q2, q3, q4, q5⟩ := withMap_ok hR h3
    obtain ⟨g1, g2⟩ := findKey_ok hC hR h2 hi q5 q3
    simp only [conc, Sem.run_bind, run_und hC h1, Result.andThen_ok, run_getObj q4, Sem.run_pure, checkKey_ok hC h2, g1]
    cases f with
    | none =>
      obtain ⟨z, h4, e4⟩ := E.bd_eq_ok e3; clear e3
      injection e4 with e4
      subst e4
      obtain ⟨z1, z2, _, _⟩ := zeroV_ok hC h4 ι h.n
      obtain ⟨k1, k2⟩ := hend z false z2
      simp only [Option.map_none, Sem.run_bind, z1, Result.andThen_ok, Sem.run_pure]
      exact ⟨by rw [k1], k2⟩
    | some p =>
      obtain ⟨j, v'⟩ := p
      injection e3 with e3
      subst e3
      obtain ⟨en, k3, k4, _⟩ := g2 j v' rfl
      obtain ⟨k1, k2⟩ := hend v' true (k4 ▸ (q5 en (List.mem_of_getElem? k3)).2)
      simp only [Option.map_some, Result.andThen_ok, Sem.run_bind, Sem.run_pure]
      exact ⟨by rw [k1], k2⟩
  · cases h3
omit hR hC in
theorem sameBits_self (d : Nat) (v : Value) (h : match v with | .int _ _ | .string _ | .pointer _ => True | _ => False) : Instr.sameBits d v v = true := by
  cases v <;> first | exact h.elim | (cases d <;> simp [Instr.sameBits, MapKept.bytes_beq])
omit hR hC in
theorem keyEq_same {t : TypeId} {a b : AV} (ha : okV ι h.n a) (hb : okV ι h.n b) (e : keyEq C h t a b = .ok true) : conc ι a = conc ι b ∧ (match conc ι a with | .int _ _ | .string _ | .pointer _ => True | _ => False) := by
  obtain ⟨u, h1, e1⟩ := E.bd_eq_ok e
  split at e1
  · obtain ⟨h2, e2⟩ := chk_ok e1
    injection e2 with e2
    have h2 := eq_of_beq h2
    have e2 := eq_of_beq e2
    subst h2 e2
    exact ⟨rfl, trivial⟩
  · rename_i x y
    rw [fN_eq] at e1
    injection e1 with e1
    have e1 := beq_eq e1
    refine ⟨?_, trivial⟩
    rcases cmpL_spec x y ha hb with ⟨g, _⟩ | ⟨_, _, g⟩ | ⟨g, _⟩
    · omega
    · have := eq_of_beq g
      simp only [conc, concStr, this]
    · omega
  · obtain ⟨n, h2, e2⟩ := E.bd_eq_ok e1
    obtain ⟨h3, e3⟩ := chk_ok e2
    unfold ptrEq at e3
    rename_i b o b' o'
    by_cases hbb : b = b'
    · rw [beq_t hbb] at e3
      simp only [ite'_true] at e3
      injection e3 with e3
      have e3 := beq_eq e3
      subst hbb e3
      exact ⟨rfl, trivial⟩
    · rw [beq_f hbb] at e3
      simp only [ite'_false] at e3
      obtain ⟨_, _, _, _, _, _, _, e4⟩ := withCells_ok e3
      obtain ⟨_, _, _, _, _, _, _, e5⟩ := withCells_ok e4
      obtain ⟨_, e6⟩ := chk_ok e5
      injection e6 with e6
      cases e6
  · cases e1
theorem mapUpd_ok {t : TypeId} {m key v : AV} {h' : H} (hk : okV ι h.n key) (hv : okV ι h.n v) (e : mapUpd C t m key v h = .ok h') :
    ∃ w', (Instr.mapUpdate t (conc ι m) (conc ι key) (conc ι v)).run P w = .ok () w' ∧ Stp B ι ι h h' w w' := by
  obtain ⟨u, h1, e1⟩ := E.bd_eq_ok e; clear e
  split at e1
  case h_2 => cases e1
  rename_i kt vt r
  obtain ⟨q, h2, e2⟩ := E.bd_eq_ok e1; clear e1
  obtain ⟨es, c, g1, g2, g3, g4, g5⟩ := withMap_ok hR e2
  obtain ⟨f, h3, e3⟩ := E.bd_eq_ok g3; clear g3 e2
  obtain ⟨k1, k2⟩ := findKey_ok hC hR h2 hk g5 h3
  have hlt := hR.lt r g1 (by rw [g2]; rfl)
  unfold Instr.mapUpdate
  simp only [Sem.run_bind, run_und hC h1, Result.andThen_ok, conc, run_getObj g4, checkKey_ok hC h2, k1]
  split at e3
  · rename_i i vv
    obtain ⟨en, l1, l2, l3⟩ := k2 i vv rfl
    obtain ⟨en', h4, e4⟩ := E.bd_eq_ok e3; clear e3
    have h4 := ofOpt_ok h4
    rw [nth_eq, l1] at h4
    injection h4 with h4
    subst h4
    obtain ⟨h5, e5⟩ := setL_ok e4; clear e4
    obtain ⟨hh, m1, m2, m3, m4, m5⟩ := setO_ok hR.n e5
    injection m1 with m1
    subst m1
    have hen := g5 en (List.mem_of_getElem? l1)
    obtain ⟨s1, s2⟩ := keyEq_same hk hen.1 l3
    refine ⟨_, ?_, Stp.of_put (.map ((es.map (concE ι)).toArray.modify i fun x => { x with key := conc ι key, val := conc ι v }) c) hR g1 m3 m5 (by rw [g2]; rfl) ?_⟩
    · simp only [Option.map_some, Sem.run_bind]
      have hold : ((((es.map (concE ι)).toArray[i]?).map (·.key)).getD (conc ι key)) = conc ι key := by
        simp [l1, concE, s1]
      rw [hold]
      unfold Instr.keyThatStays
      rw [sameBits_self _ _ s2]
      simp only [if_true, Sem.run_pure, Result.andThen_ok]
      rw [run_setObj _ g4]
    · rw [m4]
      refine ⟨?_, ?_⟩
      · rw [put_at hlt]
        congr 2
        apply Array.ext_getElem?
        intro j
        simp only [Array.getElem?_modify, List.getElem?_toArray, List.getElem?_map, List.getElem?_set]
        by_cases hij : i = j
        · subst hij
          have : es[i] = en := (List.getElem?_eq_some_iff.1 l1).2
          simp [concE, s1, h5, this]
        · simp [hij]
      · intro x hx
        rcases List.mem_or_eq_of_mem_set hx with hx | hx
        · exact g5 x hx
        · subst hx; exact ⟨hen.1, hv⟩
  · rw [fN_eq, fLs_eq] at e3
    obtain ⟨hh, m1, m2, m3, m4, m5⟩ := setO_ok hR.n e3
    injection m1 with m1
    subst m1
    refine ⟨_, ?_, Stp.of_put (.map ((es.map (concE ι)).toArray.push { key := conc ι key, val := conc ι v, born := c }) (c + 1)) hR g1 m3 m5 (by rw [g2]; rfl) ?_⟩
    · simp only [Option.map_none]
      rw [run_setObj _ g4]
    · rw [m4]
      refine ⟨?_, ?_⟩
      · rw [put_at hlt]
        simp [concE]
      · intro x hx
        rcases List.mem_append.1 hx with hx | hx
        · exact g5 x hx
        · rw [List.mem_singleton] at hx
          subst hx; exact ⟨hk, hv⟩
theorem delV_ok {ats : Array TypeId} {ty : TypeId} {m key : AV} {h' : H} (hk : okV ι h.n key) (e : delV C ats.toList m key h = .ok h') :
    ∃ w', (Builtin.delete_ ats ty #[conc ι m, conc ι key]).run P w = .ok (.tuple #[]) w' ∧ Stp B ι ι h h' w w' := by
  obtain ⟨t, h0, e0⟩ := E.bd_eq_ok e; clear e
  have h0 := ofOpt_ok h0
  rw [nth_eq, Array.getElem?_toList] at h0
  obtain ⟨u, h1, e1⟩ := E.bd_eq_ok e0; clear e0
  unfold Builtin.delete_
  simp only [h0, List.getElem?_toArray, List.getElem?_cons_zero, List.getElem?_cons_succ, Sem.run_bind, run_und hC h1, Result.andThen_ok]
  split at e1
  · obtain ⟨q, h2, e2⟩ := E.bd_eq_ok e1; clear e1
    injection e2 with e2
    subst e2
    refine ⟨w, ?_, Stp.refl hR⟩
    simp only [conc, Sem.run_bind, checkKey_ok hC h2, Result.andThen_ok, Sem.run_pure]
  · rename_i kt vt r
    obtain ⟨q, h2, e2⟩ := E.bd_eq_ok e1; clear e1
    obtain ⟨es, c, g1, g2, g3, g4, g5⟩ := withMap_ok hR e2
    obtain ⟨f, h3, e3⟩ := E.bd_eq_ok g3; clear g3 e2
    obtain ⟨k1, k2⟩ := findKey_ok hC hR h2 hk g5 h3
    have hlt := hR.lt r g1 (by rw [g2]; rfl)
    simp only [conc, Sem.run_bind, Result.andThen_ok, run_getObj g4, checkKey_ok hC h2, k1]
    split at e3
    · rename_i i vv
      rw [fLs_eq] at e3
      obtain ⟨hh, m1, m2, m3, m4, m5⟩ := setO_ok hR.n e3
      injection m1 with m1
      subst m1
      obtain ⟨en, l1, l2, l3⟩ := k2 i vv rfl
      have hi : i < es.length := (List.getElem?_eq_some_iff.1 l1).1
      refine ⟨_, ?_, Stp.of_put (.map ((es.map (concE ι)).toArray.eraseIdxIfInBounds i) c) hR g1 m3 m5 (by rw [g2]; rfl) ?_⟩
      · simp only [Option.map_some]
        rw [Sem.run_bind, run_setObj _ g4]
        rfl
      · rw [m4]
        refine ⟨?_, fun x hx => g5 x ((List.eraseIdx_sublist _ _).subset hx)⟩
        rw [put_at hlt]
        congr 2
        simp [Array.eraseIdxIfInBounds, hi, map_eraseIdx']
    · injection e3 with e3
      subst e3
      refine ⟨_, ?_, Stp.of_put (.map (es.map (concE ι)).toArray c) hR g1 rfl (fun _ _ _ => rfl) (by rw [g2]; rfl) ?_⟩
      · simp only [Option.map_none]
        rw [Sem.run_bind, run_setObj _ g4]
        rfl
      · rw [g2]
        exact ⟨put_at hlt, g5⟩
  · cases e1
omit hC in
theorem new_obj {h' : H} {o : AObj} {o' : Obj} (hlt : h.n < 32760) (hn : h'.n = h.n + 1) (hat : h'.at h.n = o) (hk : ∀ b, b < h.n → h'.at b = h.at b)
    (ho : ObjR (setI ι h.n ⟨w.heap.size, 0, 0⟩) (h.n + 1) ⟨w.heap.size, 0, 0⟩ (w.alloc o') o) : Stp B ι (setI ι h.n ⟨w.heap.size, 0, 0⟩) h h' w (w.alloc o') :=
  Stp.of_new hR hlt hn hk rfl (fun k hk => alloc_lt w _ k hk) (by show (w.heap.push _).size = _; rw [Array.size_push]) (by rw [hat]; exact ho) rfl rfl rfl
omit hC in
theorem makeMap_ok {t : TypeId} {v : AV} {h' : H} (e : newO h (.map [] 0) (fun b h => E.ok (AV.map b, h)) = .ok (v, h')) :
    ∃ ι' w', (Instr.makeMap t none).run P w = .ok (conc ι' v) w' ∧ Stp B ι ι' h h' w w' ∧ okV ι' h'.n v := by
  obtain ⟨hh, k1, k2, k3, k4, k5⟩ := newO_ok e
  injection k1 with k1
  injection k1 with k1 k1'
  subst k1 k1'
  refine ⟨_, w.alloc (.map #[] 0), ?_, new_obj hR k2 k3 k4 k5 ⟨alloc_new w _, fun e he => (by cases he)⟩, by show h.n < hh.n; omega⟩
  simp [Instr.makeMap, conc, Result.andThen]
theorem rangeV_ok {t : TypeId} {x v : AV} {h' : H} (hx : okV ι h.n x) (e : rangeV C t x h = .ok (v, h')) :
    ∃ ι' w', (Instr.range t (conc ι x)).run P w = .ok (conc ι' v) w' ∧ Stp B ι ι' h h' w w' ∧ okV ι' h'.n v := by
  obtain ⟨u, h1, e1⟩ := E.bd_eq_ok e; clear e
  unfold Instr.range
  simp only [Sem.run_bind, run_und hC h1, Result.andThen_ok]
  split at e1
  · obtain ⟨hh, k1, k2, k3, k4, k5⟩ := newO_ok e1
    injection k1 with k1
    injection k1 with k1 k1'
    subst k1 k1'
    refine ⟨_, w.alloc (.mapIter none 0 #[] 0), ?_, new_obj hR k2 k3 k4 k5 ⟨alloc_new w _, Nat.le_refl _, fun r hr => (by cases hr), rfl⟩, by show h.n < hh.n; omega⟩
    simp [conc, Result.andThen]
  · rename_i kt vt r
    obtain ⟨es, c, g1, g2, g3, g4, g5⟩ := withMap_ok hR e1
    obtain ⟨hh, k1, k2, k3, k4, k5⟩ := newO_ok g3
    injection k1 with k1
    injection k1 with k1 k1'
    subst k1 k1'
    refine ⟨_, w.alloc (.mapIter (some (ι r).blk) c #[] c), ?_, new_obj hR k2 k3 k4 k5 ⟨?_, Nat.le_refl _, fun r' hr => ?_, rfl⟩, by show h.n < hh.n; omega⟩
    · simp [conc, Result.andThen, run_getObj g4]
    · rw [alloc_new]
      simp only [Option.map_some]
      rw [setI_ne (by omega)]
    · injection hr with hr; omega
  · rename_i sx
    obtain ⟨hh, k1, k2, k3, k4, k5⟩ := newO_ok e1
    injection k1 with k1
    injection k1 with k1 k1'
    subst k1 k1'
    refine ⟨_, w.alloc (.stringIter (concStr sx) 0), ?_, new_obj hR k2 k3 k4 k5 ⟨alloc_new w _, rfl⟩, by show h.n < hh.n; omega⟩
    simp [conc, Result.andThen]
  · cases e1
omit hC in
theorem nextS_ok {t : TypeId} {x v : AV} {h' : H} (e : nextS x h = .ok (v, h')) :
    ∃ w', (Instr.next (conc ι x) true t).run P w = .ok (conc ι v) w' ∧ Stp B ι ι h h' w w' ∧ okV ι h'.n v := by
  unfold nextS at e
  split at e
  case h_2 => cases e
  rename_i r
  obtain ⟨o, h1, e2⟩ := E.bd_eq_ok e
  obtain ⟨h2, h3⟩ := getO_ok h1
  have hobj := hR.obj r h2
  rw [h3] at hobj
  split at e2
  case h_2 => cases e2
  rename_i s p
  obtain ⟨q1, q4⟩ := hobj
  unfold Instr.next
  rw [nth_eq] at e2
  split at e2
  · rename_i hn
    injection e2 with e2
    injection e2 with e3 e4
    subst e3 e4
    have hle : ¬ p < (concStr s).size := by
      rw [concStr_size]
      intro hlt
      rw [List.getElem?_eq_getElem hlt] at hn
      cases hn
    refine ⟨w, ?_, Stp.refl hR, trivial, trivial⟩
    simp only [conc, q4, Nat.zero_add, Sem.run_bind, run_getObj q1, Result.andThen_ok]
    rw [if_neg hle]
    rfl
  · rename_i b hn
    obtain ⟨hb, e3⟩ := chk_ok e2
    have hb := blt_eq hb
    rw [fN_eq] at e3
    obtain ⟨hh, m1, m2, m3, m4, m5⟩ := setO_ok hR.n e3
    injection m1 with m1
    injection m1 with m1 m1'
    subst m1 m1'
    have hlt := hR.lt r h2 (by rw [h3]; rfl)
    have hps : p < s.length := (List.getElem?_eq_some_iff.1 hn).1
    have hpc : p < (concStr s).size := by rw [concStr_size]; exact hps
    have hget : (concStr s)[p]'hpc = UInt8.ofNat b := by
      have h5 : (concStr s).data[p]? = some (UInt8.ofNat b) := by simp [concStr, hn]
      have h6 : (concStr s).data[p]? = some ((concStr s)[p]'hpc) := Array.getElem?_eq_getElem hpc
      rw [h6] at h5
      exact Option.some.inj h5
    have hbn : ((concStr s)[p]'hpc).toNat = b := by
      rw [hget, UInt8.toNat_ofNat']
      omega
    refine ⟨_, ?_, Stp.of_put (.stringIter (concStr s) (p + 1)) hR h2 m3 m5 (by rw [h3]; rfl) ?_, trivial, trivial, trivial, trivial⟩
    · simp only [conc, q4, Nat.zero_add, Sem.run_bind, run_getObj q1, Result.andThen_ok]
      rw [if_pos hpc, decode_ascii (concStr s) p hpc (by omega), hbn]
      simp [run_setObj _ q1, Result.andThen, conc, concL, goInt]
    · rw [m4]
      exact ⟨put_at hlt, q4⟩
omit hC in
theorem nextM_ok {t : TypeId} {x v : AV} {h' : H} (e : nextM x h = .ok (v, h')) :
    ∃ w', (Instr.next (conc ι x) false t).run P w = .ok (conc ι v) w' ∧ Stp B ι ι h h' w w' ∧ okV ι h'.n v := by
  unfold nextM at e
  split at e
  case h_2 => cases e
  rename_i r
  have e1 := e
  clear e
  obtain ⟨o, h1, e2⟩ := E.bd_eq_ok e1; clear e1
  obtain ⟨h2, h3⟩ := getO_ok h1
  have hobj := hR.obj r h2
  rw [h3] at hobj
  unfold Instr.next
  split at e2
  · injection e2 with e2
    injection e2 with e3 e4
    subst e3 e4
    obtain ⟨q1, q2, q3, q4⟩ := hobj
    refine ⟨w, ?_, Stp.refl hR, trivial, trivial⟩
    simp only [conc, q4, Nat.zero_add, Sem.run_bind, run_getObj q1, Result.andThen_ok]
    rfl
  · rename_i m since seen st
    obtain ⟨q1, q2, q3, q4⟩ := hobj
    obtain ⟨es, c, g1, g2, g3, g4, g5⟩ := withMap_ok hR e2
    obtain ⟨hall, e3⟩ := chk_ok g3; clear g3 e2
    rw [Bool.and_eq_true] at hall
    obtain ⟨hsc, hall⟩ := hall
    have hsc := ble_eq hsc
    have hall := allB_mem hall
    have hold : ∀ e ∈ es, e.born < since := fun e he => blt_eq (hall e he)
    have hlt := hR.lt r h2 (by rw [h3]; rfl)
    have hmem : ∀ n, seen.toArray.contains n = memN seen n := by
      intro n
      rw [List.contains_toArray, memN_eq]
    have hleft : (es.map (concE ι)).toArray.filter (fun e => !seen.toArray.contains e.born) = ((es.filter fun e => !memN seen e.born).map (concE ι)).toArray := by
      rw [List.filter_toArray' (by simp), List.filter_map]
      congr 3
      funext e
      exact congrArg (! ·) (hmem e.born)
    have hno : (!seen.toArray.isEmpty && !(es.map (concE ι)).toArray.isEmpty && (es.map (concE ι)).toArray.all (·.born ≥ st)) = false := by
      cases es with
      | nil => simp
      | cons a l =>
        have := hold a (.head _)
        have h5 : ¬ st ≤ a.born := by omega
        simp [concE, h5]
    simp only [conc, q4, Nat.zero_add, Sem.run_bind, run_getObj q1, Result.andThen_ok, Option.map_some, run_getObj g4, hno, Bool.false_eq_true, if_false, hleft]
    split at e3
    · rename_i hf
      injection e3 with e3
      injection e3 with e3 e4
      subst e3 e4
      refine ⟨w, ?_, Stp.refl hR, trivial, trivial⟩
      simp only [hf]
      simp [Question.forced, Result.andThen, conc, concL]
    · rename_i en hf
      have hen : en ∈ es := by
        have : en ∈ es.filter fun e => !memN seen e.born := by rw [hf]; exact .head _
        exact (List.mem_filter.1 this).1
      obtain ⟨hh, m1, m2, m3, m4, m5⟩ := setO_ok hR.n e3
      injection m1 with m1
      injection m1 with m1 m1'
      subst m1 m1'
      have hb := hold en hen
      refine ⟨_, ?_, Stp.of_put (.mapIter (some (ι m).blk) since (seen.toArray.push en.born) c) hR h2 m3 m5 (by rw [h3]; rfl) ?_, trivial, ?_⟩
      · simp only [hf]
        have h6 : ¬ since ≤ en.born := by omega
        simp [Question.forced, Result.andThen, conc, concL, concE, hb, h6, run_setObj _ q1]
      · rw [m4]
        refine ⟨?_, ?_, fun r' hr => ?_, q4⟩
        · rw [put_at hlt]; simp
        · exact hsc
        · injection hr with hr; omega
      · rw [m3]
        exact ⟨(g5 en hen).1, (g5 en hen).2, trivial⟩
    · cases e3
  · cases e2
omit hC in
theorem nextV_ok {t : TypeId} {x v : AV} {b : Bool} {h' : H} (e : nextV x b h = .ok (v, h')) :
    ∃ w', (Instr.next (conc ι x) b t).run P w = .ok (conc ι v) w' ∧ Stp B ι ι h h' w w' ∧ okV ι h'.n v := by
  cases b with
  | true => exact nextS_ok hR e
  | false => exact nextM_ok hR e
end
end Go.Eng
