/- The abstract evaluator: plans of regions that draw their order. -/
import Derived.Test.YtdkdehbcijoaeaaEngLight
namespace Go.Eng
open Go Go.RowKit

/-! ### Sets of small numbers, as bits -/
noncomputable def bitM (n : Nat) : Nat := Nat.shiftLeft 1 n
noncomputable def hasM (m n : Nat) : Bool := Nat.beq (Nat.land (Nat.shiftRight m n) 1) 1
noncomputable def subM (a b : Nat) : Bool := Nat.beq (Nat.land a b) a
noncomputable def disM (a b : Nat) : Bool := Nat.beq (Nat.land a b) 0
noncomputable def orL {α : Type} (f : α → Nat) (l : List α) : Nat := List.rec (motive := fun _ => Nat) 0 (fun a _ ih => Nat.lor (f a) ih) l
theorem hasM_eq (m n : Nat) : hasM m n = m.testBit n := by
  have h1 : Nat.land (Nat.shiftRight m n) 1 = m / 2 ^ n % 2 := by
    show (m >>> n) &&& 1 = _
    rw [Nat.and_one_is_mod, Nat.shiftRight_eq_div_pow]
  unfold hasM
  rw [h1, Nat.testBit_eq_decide_div_mod_eq]
  by_cases h : m / 2 ^ n % 2 = 1
  · rw [beq_t h, decide_eq_true h]
  · rw [beq_f h, decide_eq_false h]
theorem testBit_bitM (n k : Nat) : (bitM n).testBit k = decide (n = k) := by
  show (1 <<< n).testBit k = _
  rw [Nat.one_shiftLeft, Nat.testBit_two_pow]
theorem testBit_lor (a b k : Nat) : (Nat.lor a b).testBit k = (a.testBit k || b.testBit k) := Nat.testBit_or a b k
theorem subM_spec {a b : Nat} (h : subM a b = true) (k : Nat) (hk : a.testBit k = true) : b.testBit k = true := by
  have h1 : Nat.land a b = a := beq_eq h
  have h2 : (a &&& b).testBit k = a.testBit k := by rw [show a &&& b = a from h1]
  rw [Nat.testBit_and, hk] at h2
  simpa using h2
theorem subM_not {a b : Nat} (h : subM a b = false) : ∃ k, a.testBit k = true ∧ b.testBit k = false := by
  by_cases hex : ∃ k, a.testBit k = true ∧ b.testBit k = false
  · exact hex
  · exfalso
    have : Nat.land a b = a := by
      show a &&& b = a
      apply Nat.eq_of_testBit_eq
      intro k
      rw [Nat.testBit_and]
      cases ha : a.testBit k with
      | false => rfl
      | true =>
        cases hb : b.testBit k with
        | true => rfl
        | false => exact absurd ⟨k, ha, hb⟩ hex
    have h' : Nat.beq (Nat.land a b) a = false := h
    rw [beq_t this] at h'
    cases h'
theorem disM_spec {a b : Nat} (h : disM a b = true) (k : Nat) (ha : a.testBit k = true) : b.testBit k = false := by
  have h1 : Nat.land a b = 0 := beq_eq h
  have h2 : (a &&& b).testBit k = (0 : Nat).testBit k := by rw [show a &&& b = 0 from h1]
  rw [Nat.testBit_and, ha, Nat.zero_testBit] at h2
  simpa using h2
theorem orL_has {α : Type} {f : α → Nat} {l : List α} {k : Nat} : (orL f l).testBit k = true ↔ ∃ a ∈ l, (f a).testBit k = true := by
  induction l with
  | nil => simp [orL]
  | cons a l ih =>
    show (Nat.lor (f a) (orL f l)).testBit k = true ↔ _
    rw [testBit_lor, Bool.or_eq_true, ih]
    simp

/-! ### What is known of an operation -/
noncomputable def bindsE (e : Edge) : Bool := match e.ground with | .textOnly _ => false | .gcOnly _ => false | _ => true
theorem bindsE_eq (e : Edge) : Region.binds .any e = bindsE e := by
  unfold Region.binds bindsE
  cases e.ground <;> rfl
def Pre (o : Oper) (p : Nat) : Prop := ∃ e ∈ o.after, Region.binds .any e = true ∧ e.on = p
noncomputable def preM (o : Oper) : Nat := orL (fun e => ite' (bindsE e) (bitM e.on) 0) o.after.toList
theorem preM_has {o : Oper} {p : Nat} : (preM o).testBit p = true ↔ Pre o p := by
  unfold preM Pre
  rw [orL_has]
  constructor
  · rintro ⟨e, he, h⟩
    cases hb : bindsE e with
    | false => rw [hb] at h; simp at h
    | true =>
      rw [hb, ite'_true, testBit_bitM] at h
      exact ⟨e, by simpa using he, by rw [bindsE_eq, hb], by simpa using h⟩
  · rintro ⟨e, he, hb, rfl⟩
    rw [bindsE_eq] at hb
    exact ⟨e, by simpa using he, by rw [hb, ite'_true, testBit_bitM]; simp⟩
noncomputable def dstM (o : Oper) : Nat := match o.dst with | none => 0 | some d => bitM d
theorem dstM_has {o : Oper} {d : Nat} : (dstM o).testBit d = true ↔ o.dst = some d := by
  unfold dstM
  cases o.dst with
  | none => simp
  | some e => simp [testBit_bitM]
noncomputable def lookM (ops : Array Oper) (o : Oper) : Nat := orL bitM (o.looksAt ops)
theorem lookM_has {ops : Array Oper} {o : Oper} {d : Nat} : (lookM ops o).testBit d = true ↔ d ∈ o.looksAt ops := by
  unfold lookM
  rw [orL_has]
  simp [testBit_bitM]
/-- 'x' goes ahead of 'o' in every order. -/
def MB (ops : Array Oper) (x : Nat) (o : Oper) : Prop :=
  ∀ S : Nat → Prop, (∀ j oj, ops[j]? = some oj → S j → ∀ p, Pre oj p → S p) → (∀ p, Pre o p → S p) → S x
structure Inf where
  i : Nat
  o : Oper
  pm : Nat
  dm : Nat
  lm : Nat
  clo : Nat
  kind : Nat
inductive Pl where
  | done
  | light (i : Nat) (o : Oper) (blind : Bool) (rest : Pl)
  | heavy (i : Nat) (o : Oper) (m : Nat) (rest : Pl)
noncomputable def kindOf (C : Cx) (o : Op) : Nat := ite' (lightE C o) (ite' (blindE o) 0 1) 2
noncomputable def mkInf (C : Cx) (ops : Array Oper) (i : Nat) (o : Oper) : Inf :=
  fN (preM o) fun pm => fN (dstM o) fun dm => fN (lookM ops o) fun lm => fN (kindOf C o.op) fun kind => ⟨i, o, pm, dm, lm, 0, kind⟩
noncomputable def infs (C : Cx) (ops : Array Oper) (l : List Oper) : Nat → List Inf :=
  List.rec (motive := fun _ => Nat → List Inf) (fun _ => []) (fun o _ ih i => mkInf C ops i o :: ih (i + 1)) l
noncomputable def apartM (x z : Inf) : Bool := ite' (disM x.dm (Nat.lor z.lm z.dm)) (disM z.dm x.lm) false
noncomputable def lightK (z : Inf) : Bool := Nat.blt z.kind 2
/-- Each of the light ones ahead goes ahead always, or does not meet this one. -/
noncomputable def pairsB (allK : List Inf) (clo : Nat) (z : Inf) : Bool := allB (fun x => ite' (lightK x) (ite' (hasM clo x.i) true (apartM x z)) true) allK
noncomputable def cloOf (allK : List Inf) (pm : Nat) : Nat := orL (fun x => ite' (hasM pm x.i) (Nat.lor (bitM x.i) x.clo) 0) allK
noncomputable def pick {β : Type} (p : Inf → Bool) (l : List Inf) : List Inf → (Inf → List Inf → β) → β → β :=
  List.rec (motive := fun _ => List Inf → (Inf → List Inf → β) → β → β) (fun _ _ n => n) (fun a l ih pre k n => ite' (p a) (k a (pre ++ l)) (ih (a :: pre) k n)) l
noncomputable def setClo (z : Inf) (c : Nat) : Inf := ⟨z.i, z.o, z.pm, z.dm, z.lm, c, z.kind⟩
noncomputable def build (fuel : Nat) : Nat → List Inf → List Inf → E Pl :=
  Nat.rec (motive := fun _ => Nat → List Inf → List Inf → E Pl) (fun _ _ _ => .err [280])
    (fun _ ih L allK todo => match todo with
      | [] => .ok .done
      | _ =>
        pick (fun z => ite' (lightK z) (subM z.pm L) false) todo []
          (fun z todo' => fN (cloOf allK z.pm) fun c => chk (pairsB allK c z) 281 <|
            fN (Nat.lor L (bitM z.i)) fun L' => (ih L' (setClo z c :: allK) todo').bd fun r => .ok (.light z.i z.o (Nat.beq z.kind 0) r))
          (pick (fun z => ite' (lightK z) false (subM z.pm L)) todo []
            (fun z todo' => fN (cloOf allK z.pm) fun c => chk (pairsB allK c z) 282 <| chk (allB (fun x => !(subM x.pm L)) todo') 283 <|
              fN (Nat.lor L (bitM z.i)) fun L' => (ih L' (setClo z c :: allK) todo').bd fun r => .ok (.heavy z.i z.o c r))
            (.err [284]))) fuel
noncomputable def plan (C : Cx) (ops : Array Oper) : E Pl := build (ops.size + 1) 0 [] (infs C ops ops.toList 0)

/-! ### What a plan promises -/
def PlOk (C : Cx) (ops : Array Oper) : Pl → Nat → List (Nat × Oper) → Prop
  | .done, L, _ => ∀ j oj, ops[j]? = some oj → L.testBit j = true
  | .light i o b rest, L, K => ops[i]? = some o ∧ L.testBit i = false ∧ (∀ p, Pre o p → L.testBit p = true) ∧ (∀ x ∈ K, MB ops x.1 o ∨ x.2.apart ops o = true) ∧
      lightE C o.op = true ∧ (b = true → blindE o.op = true) ∧ PlOk C ops rest (Nat.lor L (bitM i)) ((i, o) :: K)
  | .heavy i o m rest, L, K => ops[i]? = some o ∧ L.testBit i = false ∧ (∀ p, Pre o p → L.testBit p = true) ∧ (∀ x ∈ K, MB ops x.1 o ∨ x.2.apart ops o = true) ∧
      (∀ x ∈ K, m.testBit x.1 = true → MB ops x.1 o) ∧ (∀ j oj, ops[j]? = some oj → L.testBit j = false → j ≠ i → ∃ p, Pre oj p ∧ L.testBit p = false) ∧ PlOk C ops rest (Nat.lor L (bitM i)) K
structure InfOk (C : Cx) (ops : Array Oper) (z : Inf) : Prop where
  op : ops[z.i]? = some z.o
  pm : z.pm = preM z.o
  dm : z.dm = dstM z.o
  lm : z.lm = lookM ops z.o
  kind : z.kind = kindOf C z.o.op
theorem InfOk.light {C : Cx} {ops : Array Oper} {z : Inf} (h : InfOk C ops z) (hl : lightK z = true) : lightE C z.o.op = true ∧ (Nat.beq z.kind 0 = true → blindE z.o.op = true) := by
  have hk : z.kind < 2 := by simpa [lightK, Nat.blt_eq] using hl
  rw [h.kind] at hk ⊢
  unfold kindOf at hk ⊢
  cases h1 : lightE C z.o.op with
  | false => rw [h1] at hk; simp at hk
  | true =>
    refine ⟨rfl, ?_⟩
    cases h2 : blindE z.o.op with
    | true => intro _; rfl
    | false => intro h3; simp at h3
theorem apartM_spec {C : Cx} {ops : Array Oper} {x z : Inf} (hx : InfOk C ops x) (hz : InfOk C ops z) (h : apartM x z = true) : x.o.apart ops z.o = true := by
  unfold apartM at h
  cases h1 : disM x.dm (Nat.lor z.lm z.dm) with
  | false => rw [h1] at h; cases h
  | true =>
    rw [h1, ite'_true] at h
    unfold Oper.apart
    rw [Bool.and_eq_true]
    constructor
    · cases hd : x.o.dst with
      | none => rfl
      | some d =>
        have := disM_spec h1 d (by rw [hx.dm]; exact dstM_has.2 hd)
        rw [testBit_lor, Bool.or_eq_false_iff, hz.lm, hz.dm] at this
        simp only [Bool.and_eq_true, Bool.not_eq_true', bne_iff_ne, ne_eq]
        refine ⟨?_, fun he => ?_⟩
        · cases hc : (z.o.looksAt ops).contains d with
          | false => rfl
          | true =>
            have := this.1
            rw [lookM_has.2 (by simpa using hc)] at this
            cases this
        · have := this.2
          rw [dstM_has.2 he] at this
          cases this
    · cases hd : z.o.dst with
      | none => rfl
      | some d =>
        have := disM_spec h d (by rw [hz.dm]; exact dstM_has.2 hd)
        rw [hx.lm] at this
        simp only [Bool.not_eq_true']
        cases hc : (x.o.looksAt ops).contains d with
        | false => rfl
        | true =>
          rw [lookM_has.2 (by simpa using hc)] at this
          cases this
theorem allB_spec {α : Type} {p : α → Bool} {l : List α} (h : allB p l = true) : ∀ x ∈ l, p x = true := by
  induction l with
  | nil => intro x hx; cases hx
  | cons a l ih =>
    have h : ite' (p a) (allB p l) false = true := h
    cases hp : p a with
    | false => rw [hp] at h; cases h
    | true =>
      rw [hp, ite'_true] at h
      intro x hx
      rcases List.mem_cons.1 hx with rfl | hx
      · exact hp
      · exact ih h x hx
theorem pick_spec {β : Type} {p : Inf → Bool} {n : E β} {b : β} : ∀ (l pre : List Inf) (k : Inf → List Inf → E β), pick p l pre k n = .ok b →
    (∃ z l', p z = true ∧ k z l' = .ok b ∧ List.Perm (z :: l') (pre ++ l)) ∨ (n = .ok b ∧ ∀ z ∈ l, p z = false) := by
  intro l
  induction l with
  | nil => intro pre k h; exact .inr ⟨h, fun z hz => by cases hz⟩
  | cons a l ih =>
    intro pre k h
    have h : ite' (p a) (k a (pre ++ l)) (pick p l (a :: pre) k n) = .ok b := h
    cases hp : p a with
    | true =>
      rw [hp, ite'_true] at h
      exact .inl ⟨a, pre ++ l, hp, h, List.perm_middle.symm⟩
    | false =>
      rw [hp, ite'_false] at h
      rcases ih (a :: pre) k h with ⟨z, l', h1, h2, h3⟩ | ⟨h1, h2⟩
      · exact .inl ⟨z, l', h1, h2, h3.trans (by simpa using List.perm_middle.symm)⟩
      · refine .inr ⟨h1, fun z hz => ?_⟩
        rcases List.mem_cons.1 hz with rfl | hz
        · exact hp
        · exact h2 z hz
structure BldOk (C : Cx) (ops : Array Oper) (L : Nat) (allK todo : List Inf) : Prop where
  okK : ∀ x ∈ allK, InfOk C ops x ∧ ∀ p, x.clo.testBit p = true → MB ops p x.o
  okT : ∀ x ∈ todo, InfOk C ops x ∧ L.testBit x.i = false
  dup : todo.Pairwise fun x y => x.i ≠ y.i
  all : ∀ j oj, ops[j]? = some oj → L.testBit j = false → ∃ x ∈ todo, x.i = j
noncomputable def keyK (allK : List Inf) : List (Nat × Oper) := (allK.filter lightK).map fun x => (x.i, x.o)
theorem clo_spec {C : Cx} {ops : Array Oper} {allK : List Inf} {z : Inf} (hK : ∀ x ∈ allK, InfOk C ops x ∧ ∀ p, x.clo.testBit p = true → MB ops p x.o) (hz : z.pm = preM z.o) :
    ∀ p, (cloOf allK z.pm).testBit p = true → MB ops p z.o := by
  intro p hp S hS hpre
  unfold cloOf at hp
  rw [orL_has] at hp
  obtain ⟨x, hx, hp⟩ := hp
  cases hh : hasM z.pm x.i with
  | false => rw [hh] at hp; simp at hp
  | true =>
    rw [hh, ite'_true, testBit_lor, testBit_bitM, Bool.or_eq_true] at hp
    rw [hasM_eq, hz, preM_has] at hh
    have hSx := hpre _ hh
    rcases hp with hp | hp
    · have : x.i = p := by simpa using hp
      rw [← this]; exact hSx
    · exact (hK x hx).2 p hp S hS fun q hq => hS x.i x.o (hK x hx).1.op hSx q hq
theorem pairs_spec {C : Cx} {ops : Array Oper} {allK : List Inf} {z : Inf} {c : Nat} (hK : ∀ x ∈ allK, InfOk C ops x ∧ ∀ p, x.clo.testBit p = true → MB ops p x.o) (hz : InfOk C ops z)
    (hc : ∀ p, c.testBit p = true → MB ops p z.o) (h : pairsB allK c z = true) : ∀ x ∈ keyK allK, MB ops x.1 z.o ∨ x.2.apart ops z.o = true := by
  intro x hx
  obtain ⟨y, hy, rfl⟩ := List.mem_map.1 hx
  obtain ⟨hy, hl⟩ := List.mem_filter.1 hy
  have := allB_spec h y hy
  rw [hl, ite'_true] at this
  cases hh : hasM c y.i with
  | true => rw [hasM_eq] at hh; exact .inl (hc _ hh)
  | false =>
    rw [hh, ite'_false] at this
    exact .inr (apartM_spec (hK y hy).1 hz this)
theorem BldOk.take {C : Cx} {ops : Array Oper} {L : Nat} {allK todo todo' : List Inf} {z : Inf} {c : Nat} (h : BldOk C ops L allK todo) (hp : List.Perm (z :: todo') todo)
    (hc : ∀ p, c.testBit p = true → MB ops p z.o) : BldOk C ops (Nat.lor L (bitM z.i)) (setClo z c :: allK) todo' where
  okK := fun x hx => by
    rcases List.mem_cons.1 hx with rfl | hx
    · have := (h.okT z (hp.subset (List.mem_cons_self ..))).1
      exact ⟨⟨this.op, this.pm, this.dm, this.lm, this.kind⟩, hc⟩
    · exact h.okK x hx
  okT := fun x hx => by
    have h1 := h.okT x (hp.subset (List.mem_cons_of_mem _ hx))
    refine ⟨h1.1, ?_⟩
    have hd : (z :: todo').Pairwise fun x y => x.i ≠ y.i := (List.Perm.pairwise_iff (fun h => Ne.symm h) hp).2 h.dup
    have := (List.pairwise_cons.1 hd).1 x hx
    rw [testBit_lor, h1.2, testBit_bitM]
    simp [this]
  dup := (List.pairwise_cons.1 ((List.Perm.pairwise_iff (fun h => Ne.symm h) hp).2 h.dup)).2
  all := fun j oj hj hL => by
    rw [testBit_lor, testBit_bitM, Bool.or_eq_false_iff] at hL
    obtain ⟨x, hx, rfl⟩ := h.all j oj hj hL.1
    rcases List.mem_cons.1 (hp.symm.subset hx) with rfl | hx
    · simp at hL
    · exact ⟨x, hx, rfl⟩
theorem build_ok {C : Cx} {ops : Array Oper} : ∀ (fuel L : Nat) (allK todo : List Inf) (pl : Pl), BldOk C ops L allK todo → build fuel L allK todo = .ok pl → PlOk C ops pl L (keyK allK) := by
  intro fuel
  induction fuel with
  | zero => intro L allK todo pl _ e; cases e
  | succ fuel ih =>
    intro L allK todo pl hB e
    cases todo with
    | nil =>
      have e : (E.ok Pl.done : E Pl) = .ok pl := e
      injection e with e
      subst e
      intro j oj hj
      cases hL : L.testBit j with
      | true => rfl
      | false => obtain ⟨x, hx, _⟩ := hB.all j oj hj hL; cases hx
    | cons t0 ts =>
      generalize htd : t0 :: ts = todo at hB e
      have e : pick (fun z => ite' (lightK z) (subM z.pm L) false) todo []
          (fun z todo' => fN (cloOf allK z.pm) fun c => chk (pairsB allK c z) 281 <|
            fN (Nat.lor L (bitM z.i)) fun L' => (build fuel L' (setClo z c :: allK) todo').bd fun r => .ok (.light z.i z.o (Nat.beq z.kind 0) r))
          (pick (fun z => ite' (lightK z) false (subM z.pm L)) todo []
            (fun z todo' => fN (cloOf allK z.pm) fun c => chk (pairsB allK c z) 282 <| chk (allB (fun x => !(subM x.pm L)) todo') 283 <|
              fN (Nat.lor L (bitM z.i)) fun L' => (build fuel L' (setClo z c :: allK) todo').bd fun r => .ok (.heavy z.i z.o c r))
            (.err [284])) = .ok pl := by subst htd; exact e
      rcases pick_spec todo [] _ e with ⟨z, todo', hz, h1, h2⟩ | ⟨h1, hno⟩
      · rw [List.nil_append] at h2
        obtain ⟨hzo, hzL⟩ := hB.okT z (h2.subset (List.mem_cons_self ..))
        rw [fN_eq] at h1
        obtain ⟨g1, g2⟩ := chk_ok h1
        rw [fN_eq] at g2
        obtain ⟨r, g3, g4⟩ := E.bd_eq_ok g2
        injection g4 with g4
        subst g4
        cases hl : lightK z with
        | false => rw [hl] at hz; cases hz
        | true =>
          rw [hl, ite'_true] at hz
          have hc := clo_spec hB.okK hzo.pm
          refine ⟨hzo.op, hzL, fun p hp => subM_spec hz p (by rw [hzo.pm]; exact preM_has.2 hp), pairs_spec hB.okK hzo hc g1, (hzo.light hl).1, (hzo.light hl).2, ?_⟩
          have := ih _ _ _ _ (hB.take h2 hc) g3
          have hk : keyK (setClo z (cloOf allK z.pm) :: allK) = (z.i, z.o) :: keyK allK := by
            unfold keyK
            rw [List.filter_cons, if_pos (show lightK (setClo z (cloOf allK z.pm)) = true from hl)]
            rfl
          rw [hk] at this
          exact this
      · rcases pick_spec todo [] _ h1 with ⟨z, todo', hz, h1, h2⟩ | ⟨h1, _⟩
        · rw [List.nil_append] at h2
          obtain ⟨hzo, hzL⟩ := hB.okT z (h2.subset (List.mem_cons_self ..))
          rw [fN_eq] at h1
          obtain ⟨g1, g2⟩ := chk_ok h1
          obtain ⟨g5, g6⟩ := chk_ok g2
          rw [fN_eq] at g6
          obtain ⟨r, g3, g4⟩ := E.bd_eq_ok g6
          injection g4 with g4
          subst g4
          cases hl : lightK z with
          | true => rw [hl] at hz; cases hz
          | false =>
            rw [hl, ite'_false] at hz
            have hc := clo_spec hB.okK hzo.pm
            refine ⟨hzo.op, hzL, fun p hp => subM_spec hz p (by rw [hzo.pm]; exact preM_has.2 hp), pairs_spec hB.okK hzo hc g1, fun x _ hx => hc _ hx, fun j oj hj hL hne => ?_, ?_⟩
            · obtain ⟨x, hx, rfl⟩ := hB.all j oj hj hL
              rcases List.mem_cons.1 (h2.symm.subset hx) with rfl | hx'
              · exact absurd rfl hne
              · have := allB_spec g5 x hx'
                rw [Bool.not_eq_true'] at this
                obtain ⟨p, hp, hp'⟩ := subM_not this
                have hxo := (hB.okT x hx).1
                have : x.o = oj := Option.some.inj (hxo.op.symm.trans hj)
                rw [hxo.pm, preM_has, this] at hp
                exact ⟨p, hp, hp'⟩
            · have := ih _ _ _ _ (hB.take h2 hc) g3
              have hk : keyK (setClo z (cloOf allK z.pm) :: allK) = keyK allK := by
                unfold keyK
                rw [List.filter_cons, if_neg (show ¬ lightK (setClo z (cloOf allK z.pm)) = true from by rw [show lightK (setClo z (cloOf allK z.pm)) = lightK z from rfl, hl]; simp)]
              rw [hk] at this
              exact this
        · cases h1
theorem infs_ok {C : Cx} {ops : Array Oper} : ∀ (l : List Oper) (i : Nat), (∀ j, l[j]? = ops[i + j]?) → (∀ x ∈ infs C ops l i, InfOk C ops x ∧ i ≤ x.i) ∧ (infs C ops l i).Pairwise (fun x y => x.i ≠ y.i) ∧
    ∀ j oj, i ≤ j → ops[j]? = some oj → ∃ x ∈ infs C ops l i, x.i = j := by
  intro l
  induction l with
  | nil =>
    intro i h
    refine ⟨fun x hx => (by cases hx), List.Pairwise.nil, fun j oj hij hj => ?_⟩
    have := h (j - i)
    rw [show i + (j - i) = j by omega, hj] at this
    cases this
  | cons o l ih =>
    intro i h
    have h0 : ops[i]? = some o := by have := h 0; simpa using this.symm
    obtain ⟨h1, h2, h3⟩ := ih (i + 1) fun j => by have := h (j + 1); rw [show i + 1 + j = i + (j + 1) by omega]; simpa using this
    have hd : infs C ops (o :: l) i = mkInf C ops i o :: infs C ops l (i + 1) := rfl
    have hmk : mkInf C ops i o = ⟨i, o, preM o, dstM o, lookM ops o, 0, kindOf C o.op⟩ := by simp [mkInf]
    rw [hd]
    refine ⟨fun x hx => ?_, List.pairwise_cons.2 ⟨fun x hx => ?_, h2⟩, fun j oj hij hj => ?_⟩
    · rcases List.mem_cons.1 hx with rfl | hx
      · rw [hmk]; exact ⟨⟨h0, rfl, rfl, rfl, rfl⟩, Nat.le_refl _⟩
      · exact ⟨(h1 x hx).1, by have := (h1 x hx).2; omega⟩
    · have := (h1 x hx).2
      rw [hmk]
      show i ≠ x.i
      omega
    · by_cases e : j = i
      · subst e
        exact ⟨_, List.mem_cons_self .., by rw [hmk]⟩
      · obtain ⟨x, hx, hxi⟩ := h3 j oj (by omega) hj
        exact ⟨x, List.mem_cons_of_mem _ hx, hxi⟩
theorem plan_ok {C : Cx} {ops : Array Oper} {pl : Pl} (e : plan C ops = .ok pl) : PlOk C ops pl 0 [] := by
  obtain ⟨h1, h2, h3⟩ := infs_ok (C := C) (ops := ops) ops.toList 0 (fun j => by simp)
  exact build_ok _ _ _ _ _ ⟨fun x hx => (by cases hx), fun x hx => ⟨(h1 x hx).1, Nat.zero_testBit _⟩, h2, fun j oj hj _ => h3 j oj (Nat.zero_le _) hj⟩ e
end Go.Eng
