/- The abstract evaluator: drawn regions, proved. -/
import Derived.Test.YtbbojdjgabdjmaaGreatDoorEngSim
namespace Go.Eng
open Go Go.RowKit
section
variable {C : Cx} {P : Program} {ops : Array Oper} {r : Option Nat} {B : Nat} {ι0 : Inj} {h0 : H} {w0 : World}
def unl (n : Nat) (listed : Array Bool) : List Nat := (List.range n).filter fun j => !listed.getD j true
theorem unl_set {n i : Nat} {listed : Array Bool} (hi : listed.getD i true = false) (hn : listed.size = n) : (unl n (listed.setIfInBounds i true)).length < (unl n listed).length := by
  have hlt : i < listed.size := (getD_lt hi).1
  have h1 : unl n (listed.setIfInBounds i true) = (unl n listed).filter fun j => j != i := by
    unfold unl
    rw [List.filter_filter]
    apply List.filter_congr
    intro j hj
    by_cases hij : i = j
    · subst hij
      simp [hlt]
    · rw [getD_set_ne true hij]
      have : (j != i) = true := by simpa using fun h => hij h.symm
      rw [this, Bool.true_and]
  rw [h1]
  exact List.length_filter_lt_length_iff_exists.2 ⟨i, List.mem_filter.2 ⟨List.mem_range.2 (by omega), by rw [hi]; rfl⟩, by simp⟩
theorem unl_nil {n : Nat} {listed : Array Bool} (hn : listed.size = n) (h : (unl n listed).length ≤ 0) : ∀ i, listed.getD i true = true := by
  intro i
  cases hi : listed.getD i true with
  | true => rfl
  | false =>
    have hlt := (getD_lt hi).1
    have : i ∈ unl n listed := List.mem_filter.2 ⟨List.mem_range.2 (by omega), by rw [hi]; rfl⟩
    have h0 : unl n listed = [] := List.length_eq_zero_iff.1 (Nat.le_zero.1 h)
    rw [h0] at this
    cases this
/-- Nothing is ready: all is done. -/
theorem Sim.still {pl : Pl} {L : Nat} {K KA : List (Nat × Oper)} {D : List Pd} {pe : List PE} {ι : Inj} {h : H} {w : World} {a : Act} {listed : Array Bool} {fr : Fr}
    (s : Sim C P ops r B ι0 h0 w0 L K KA D pe ι h w a listed fr) (hn : ∀ i o b rest, pl ≠ .light i o b rest) (hp : PlOk C ops pl L K KA) (hr : Region.ready .any ops listed = []) : D = [] ∧ pl = .done := by
  have hno : ∀ i o, ops[i]? = some o → listed.getD i true = false → (∀ p, Pre o p → listed.getD p false = true) → False := fun i o ho hl hpre => by
    have : i ∈ Region.ready .any ops listed := mem_ready.2 ⟨hl, o, ho, fun e he hb => hpre _ ⟨e, he, hb, rfl⟩⟩
    rw [hr] at this
    cases this
  have hD : D = [] := by
    cases D with
    | nil => rfl
    | cons d D => exact absurd (hno d.i d.o (s.oper d (List.mem_cons_self ..)) (s.dis d (List.mem_cons_self ..)) s.ord.1) id
  subst hD
  refine ⟨rfl, ?_⟩
  cases pl with
  | done => rfl
  | light i o b rest => exact absurd rfl (hn i o b rest)
  | heavy i o m rest =>
    obtain ⟨p1, p2, p3, p4, p5, p6, p7, p8⟩ := hp
    have hi : i < listed.size := by rw [s.size]; exact (Array.getElem?_eq_some_iff.1 p1).1
    have hl : listed.getD i true = false := by
      have : ¬ listed.getD i false = true := fun hx => by rw [(s.lst i).2 (.inl hx)] at p2; cases p2
      have h1 : listed.getD i false = false := by simpa using this
      simpa [Array.getD_eq_getD_getElem?, hi] using h1
    exact absurd (hno i o p1 hl fun p hp => ((s.lst p).1 (p3 p hp)).elim id fun ⟨d, hd, _⟩ => by cases hd) id
/-- What the plan has next, and is not light, is done. -/
theorem Sim.heavy {i : Nat} {o : Oper} {m L : Nat} {rest : Pl} {K KA : List (Nat × Oper)} {D : List Pd} {pe pe' : List PE} {ι ι' : Inj} {h h' : H} {w w' : World} {a : Act} {listed : Array Bool} {fr fr' : Fr} {u : Value}
    (s : Sim C P ops r B ι0 h0 w0 L K KA D pe ι h w a listed fr) (hp : PlOk C ops (.heavy i o m rest) L K KA) (hr : ∀ p, Pre o p → listed.getD p false = true)
    (hS : Stp B ι0 ι' h0 h' w0 w') (hle : h.n ≤ h'.n) (hext : ∀ b, b < h.n → ι' b = ι b) (hF : FrR ι' h' fr' ((putsD a D).put o.dst u) r) (hpe : ∀ x ∈ pe, m.testBit x.i = false → x ∈ pe')
    (hchk : (∀ x ∈ pe', x.c h' = true) ∨ (h' = h ∧ ι' = ι)) : Sim C P ops r B ι0 h0 w0 (Nat.lor L (bitM i)) K ((i, o) :: KA) D pe' ι' h' w' (a.put o.dst u) (listed.setIfInBounds i true) fr' := by
  obtain ⟨p1, p2, p3, p4, p5, p6, p7, p8⟩ := hp
  have hi : i < listed.size := by rw [s.size]; exact (Array.getElem?_eq_some_iff.1 p1).1
  have hmb : ∀ d ∈ D, ¬ MB ops d.i o := fun d hd hmb => by
    have h1 := hmb (fun j => listed.getD j false = true) (fun j oj hj hS p hp => s.down j oj hj hS p hp) hr
    have h2 := (getD_lt (s.dis d hd)).2
    simp only [h2] at h1
    cases h1
  have hap : ∀ d ∈ D, d.o.apart ops o = true := fun d hd => (p4 _ (s.inK d hd)).resolve_left (hmb d hd)
  have hcomm : ∀ x ∈ D, ∀ t, o.dst = some t → x.o.dst ≠ some t := fun x hx t ht hx' => (Oper.apart_spec (hap x hx)).2.1 t hx' ht
  have hne : ∀ d ∈ D, d.i ≠ i := fun d hd he => by
    have := (s.lst i).2 (.inr ⟨d, hd, he⟩)
    rw [p2] at this
    cases this
  have hrc := Walk.put (dst := o.dst) (v := u) D a (fun x hx => ⟨fun a h ι' h' w' q1 q2 q3 q4 q5 => (h ι' h' w' q1 q2 q3 q4 q5).put (s.lit x hx) (Oper.apart_spec (hap x hx)).2.2, hcomm x hx⟩) s.rc
  have hcu := Walk.put (dst := o.dst) (v := u) D a (fun x hx => ⟨fun a h w' hw' => (h w' hw').put (s.lit x hx) (Oper.apart_spec (hap x hx)).2.2, hcomm x hx⟩) s.cur
  have hpend : ∀ d ∈ D, (∀ h', d.c h' = true) ∨ PE.mk d.i d.c ∈ pe' := fun d hd => (s.pend d hd).imp id fun hx => hpe _ hx (by
    cases ht : m.testBit d.i with
    | false => exact ht
    | true => exact absurd (p5 _ (s.inK d hd) ht) (hmb d hd))
  exact {
    G0 := s.G0
    S := hS
    F := by rw [putsD_put D a hcomm]; exact hF
    size := by rw [Array.size_setIfInBounds]; exact s.size
    lst := fun j => by
      rw [testBit_lor, testBit_bitM, Bool.or_eq_true, s.lst j, getD_set_iff hi]
      constructor
      · rintro ((h | h) | h)
        · exact .inl (.inl h)
        · exact .inr h
        · exact .inl (.inr (by simpa using (of_decide_eq_true h).symm))
      · rintro ((h | h) | h)
        · exact .inl (.inl h)
        · exact .inr (by simpa using h.symm)
        · exact .inl (.inr h)
    dis := fun x hx => by
      rw [getD_set_ne true (hne x hx).symm]
      exact s.dis x hx
    oper := s.oper
    lit := s.lit
    inK := s.inK
    inA := fun d hd => List.mem_cons_of_mem _ (s.inA d hd)
    down := fun j oj hj hl p hp => by
      rw [getD_set_iff hi] at hl ⊢
      rcases hl with hl | rfl
      · exact .inl (s.down j oj hj hl p hp)
      · have : oj = o := Option.some.inj (hj.symm.trans p1)
        subst this
        exact .inl (hr p hp)
    ord := Ords.mono _ _ _ (fun j hj => (getD_set_iff hi).2 (.inl hj)) s.ord
    pair := s.pair
    cur := by
      rcases hchk with hchk | ⟨rfl, rfl⟩
      · refine Walk.mono D _ (fun d hd a hx w2 hw2 => hx ι' h' w2 hw2 (Glob.step hS s.G0) hle hext ?_) hrc
        rcases hpend d hd with h1 | h1
        · exact h1 h'
        · exact hchk _ h1
      · exact hcu
    rc := Walk.mono D _ (fun d hd a hx ι2 h2 w2 q1 q2 q3 q4 q5 => hx ι2 h2 w2 q1 q2 (Nat.le_trans hle q3) (fun b hb => by
      rw [q4 b (by omega), hext b hb]) q5) hrc
    pend := hpend }
end
end Go.Eng
