/- The abstract evaluator: plans of regions that draw their order. -/
import Derived.Test.YtbbojdjgabdjmaaGreatDoorEngLight
namespace Go.Eng
open Go Go.RowKit

/-! ### Sets of small numbers, as bits -/
noncomputable def bitM (n : Nat) : Nat := Nat.shiftLeft 1 n
noncomputable def hasM (m n : Nat) : Bool := Nat.beq (Nat.land (Nat.shiftRight m n) 1) 1
noncomputable def subM (a b : Nat) : Bool := Nat.beq (Nat.land a b) a
noncomputable def disM (a b : Nat) : Bool := Nat.beq (Nat.land a b) 0
noncomputable def orL {α : Type} (f : α → Nat) (l : List α) : Nat := List.rec (motive := fun _ => Nat) 0 (fun a _ ih => Nat.lor (f a) ih) l
theorem hasM_eq (m n : Nat) : hasM m n = m.testBit n := by
  have h1 : Nat.land (Nat.shiftRight m n) 1 = m / 2 ^ n % 2 := by
    show (m >>> n) &&& 1 = _
    rw [Nat.and_one_is_mod, Nat.shiftRight_eq_div_pow]
  unfold hasM
  rw [h1, Nat.testBit_eq_decide_div_mod_eq]
  by_cases h : m / 2 ^ n % 2 = 1
  · rw [beq_t h, decide_eq_true h]
  · rw [beq_f h, decide_eq_false h]
theorem testBit_bitM (n k : Nat) : (bitM n).testBit k = decide (n = k) := by
  show (1 <<< n).testBit k = _
  rw [Nat.one_shiftLeft, Nat.testBit_two_pow]
theorem testBit_lor (a b k : Nat) : (Nat.lor a b).testBit k = (a.testBit k || b.testBit k) := Nat.testBit_or a b k
theorem subM_spec {a b : Nat} (h : subM a b = true) (k : Nat) (hk : a.testBit k = true) : b.testBit k = true := by
  have h1 : Nat.land a b = a := beq_eq h
  have h2 : (a &&& b).testBit k = a.testBit k := by rw [show a &&& b = a from h1]
  rw [Nat.testBit_and, hk] at h2
  simpa using h2
theorem subM_not {a b : Nat} (h : subM a b = false) : ∃ k, a.testBit k = true ∧ b.testBit k = false := by
  by_cases hex : ∃ k, a.testBit k = true ∧ b.testBit k = false
  · exact hex
  · exfalso
    have : Nat.land a b = a := by
      show a &&& b = a
      apply Nat.eq_of_testBit_eq
      intro k
      rw [Nat.testBit_and]
      cases ha : a.testBit k with
      | false => rfl
      | true =>
        cases hb : b.testBit k with
        | true => rfl
        | false => exact absurd ⟨k, ha, hb⟩ hex
    have h' : Nat.beq (Nat.land a b) a = false := h
    rw [beq_t this] at h'
    cases h'
theorem disM_spec {a b : Nat} (h : disM a b = true) (k : Nat) (ha : a.testBit k = true) : b.testBit k = false := by
  have h1 : Nat.land a b = 0 := beq_eq h
  have h2 : (a &&& b).testBit k = (0 : Nat).testBit k := by rw [show a &&& b = 0 from h1]
  rw [Nat.testBit_and, ha, Nat.zero_testBit] at h2
  simpa using h2
theorem orL_has {α : Type} {f : α → Nat} {l : List α} {k : Nat} : (orL f l).testBit k = true ↔ ∃ a ∈ l, (f a).testBit k = true := by
  induction l with
  | nil => simp [orL]
  | cons a l ih =>
    show (Nat.lor (f a) (orL f l)).testBit k = true ↔ _
    rw [testBit_lor, Bool.or_eq_true, ih]
    simp

/-! ### What is known of an operation -/
noncomputable def bindsE (e : Edge) : Bool := match e.ground with | .textOnly _ => false | .gcOnly _ => false | _ => true
theorem bindsE_eq (e : Edge) : Region.binds .any e = bindsE e := by
  unfold Region.binds bindsE
  cases e.ground <;> rfl
def Pre (o : Oper) (p : Nat) : Prop := ∃ e ∈ o.after, Region.binds .any e = true ∧ e.on = p
noncomputable def preM (o : Oper) : Nat := orL (fun e => ite' (bindsE e) (bitM e.on) 0) o.after.toList
theorem preM_has {o : Oper} {p : Nat} : (preM o).testBit p = true ↔ Pre o p := by
  unfold preM Pre
  rw [orL_has]
  constructor
  · rintro ⟨e, he, h⟩
    cases hb : bindsE e with
    | false => rw [hb] at h; simp at h
    | true =>
      rw [hb, ite'_true, testBit_bitM] at h
      exact ⟨e, by simpa using he, by rw [bindsE_eq, hb], by simpa using h⟩
  · rintro ⟨e, he, hb, rfl⟩
    rw [bindsE_eq] at hb
    exact ⟨e, by simpa using he, by rw [hb, ite'_true, testBit_bitM]; simp⟩
noncomputable def dstM (o : Oper) : Nat := match o.dst with | none => 0 | some d => bitM d
theorem dstM_has {o : Oper} {d : Nat} : (dstM o).testBit d = true ↔ o.dst = some d := by
  unfold dstM
  cases o.dst with
  | none => simp
  | some e => simp [testBit_bitM]
noncomputable def lookM (ops : Array Oper) (o : Oper) : Nat := orL bitM (o.looksAt ops)
theorem lookM_has {ops : Array Oper} {o : Oper} {d : Nat} : (lookM ops o).testBit d = true ↔ d ∈ o.looksAt ops := by
  unfold lookM
  rw [orL_has]
  simp [testBit_bitM]
/-- 'x' goes ahead of 'o' in every order. -/
def MB (ops : Array Oper) (x : Nat) (o : Oper) : Prop :=
  ∀ S : Nat → Prop, (∀ j oj, ops[j]? = some oj → S j → ∀ p, Pre oj p → S p) → (∀ p, Pre o p → S p) → S x
structure Inf where
  i : Nat
  o : Oper
  pm : Nat
  dm : Nat
  lm : Nat
  clo : Nat
  kind : Nat
inductive Pl where
  | done
  | light (i : Nat) (o : Oper) (blind : Bool) (rest : Pl)
  | heavy (i : Nat) (o : Oper) (m : Nat) (rest : Pl)
/-- A new variable, of which nothing is asked. -/
noncomputable def allocE (C : Cx) (o : Oper) : Bool := match o.guard with
  | none => (match o.op with
    | .alloc el => E.rec (motive := fun _ => Bool) (fun _ => true) (fun _ => false) (zeroV C el)
    | _ => false)
  | some _ => false
theorem allocE_spec {C : Cx} {o : Oper} (h : allocE C o = true) : o.guard = none ∧ ∃ el z, o.op = .alloc el ∧ zeroV C el = .ok z := by
  unfold allocE at h
  split at h
  · rename_i hg
    split at h
    · rename_i el ho
      refine ⟨hg, el, ?_⟩
      cases hz : zeroV C el with
      | ok z => exact ⟨z, ho, rfl⟩
      | err l => rw [hz] at h; cases h
    · cases h
  · cases h
noncomputable def kindOf (C : Cx) (o : Oper) : Nat := ite' (lightE C o.op) (ite' (blindE o.op) 0 1) (ite' (allocE C o) 3 2)
noncomputable def mkInf (C : Cx) (ops : Array Oper) (i : Nat) (o : Oper) : Inf :=
  fN (preM o) fun pm => fN (dstM o) fun dm => fN (lookM ops o) fun lm => fN (kindOf C o) fun kind => ⟨i, o, pm, dm, lm, 0, kind⟩
noncomputable def infs (C : Cx) (ops : Array Oper) (l : List Oper) : Nat → List Inf :=
  List.rec (motive := fun _ => Nat → List Inf) (fun _ => []) (fun o _ ih i => mkInf C ops i o :: ih (i + 1)) l
noncomputable def apartM (x z : Inf) : Bool := ite' (disM x.dm (Nat.lor z.lm z.dm)) (disM z.dm x.lm) false
noncomputable def lightK (z : Inf) : Bool := Nat.blt z.kind 2
/-- Each of the light ones ahead goes ahead always, or does not meet this one. -/
noncomputable def pairsB (allK : List Inf) (clo : Nat) (z : Inf) : Bool := allB (fun x => ite' (lightK x) (ite' (hasM clo x.i) true (apartM x z)) true) allK
noncomputable def cloOf (allK : List Inf) (pm : Nat) : Nat := orL (fun x => ite' (hasM pm x.i) (Nat.lor (bitM x.i) x.clo) 0) allK
noncomputable def pick {β : Type} (p : Inf → Bool) (l : List Inf) : List Inf → (Inf → List Inf → β) → β → β :=
  List.rec (motive := fun _ => List Inf → (Inf → List Inf → β) → β → β) (fun _ _ n => n) (fun a l ih pre k n => ite' (p a) (k a (pre ++ l)) (ih (a :: pre) k n)) l
noncomputable def setClo (z : Inf) (c : Nat) : Inf := ⟨z.i, z.o, z.pm, z.dm, z.lm, c, z.kind⟩
noncomputable def allocK (z : Inf) : Bool := Nat.beq z.kind 3
/-- Each of those ahead goes ahead always, or does not meet this one. -/
noncomputable def pairsA (allK : List Inf) (clo : Nat) (z : Inf) : Bool := allB (fun x => ite' (hasM clo x.i) true (apartM x z)) allK
/-- Nothing but new variables may come ahead of z. -/
noncomputable def okHead (LA : Nat) (todo : List Inf) (z : Inf) : Bool := allB (fun x => ite' (Nat.beq x.i z.i) true (ite' (allocK x) true (ite' (hasM x.pm z.i) true (!(subM x.pm LA))))) todo
noncomputable def allocM (l : List Inf) : Nat := orL (fun z => ite' (allocK z) (bitM z.i) 0) l
noncomputable def build (A : Nat) (fuel : Nat) : Nat → List Inf → List Inf → E Pl :=
  Nat.rec (motive := fun _ => Nat → List Inf → List Inf → E Pl) (fun _ _ _ => .err [280])
    (fun _ ih L allK todo => match todo with
      | [] => .ok .done
      | _ =>
        pick (fun z => ite' (lightK z) (subM z.pm L) false) todo []
          (fun z todo' => fN (cloOf allK z.pm) fun c => chk (pairsB allK c z) 281 <|
            fN (Nat.lor L (bitM z.i)) fun L' => (ih L' (setClo z c :: allK) todo').bd fun r => .ok (.light z.i z.o (Nat.beq z.kind 0) r))
          (pick (fun z => ite' (Nat.beq z.kind 2) (ite' (subM z.pm L) (okHead (Nat.lor L A) todo z) false) false) todo []
            (fun z todo' => fN (cloOf allK z.pm) fun c => chk (pairsB allK c z) 282 <|
              fN (Nat.lor L (bitM z.i)) fun L' => (ih L' (setClo z c :: allK) todo').bd fun r => .ok (.heavy z.i z.o c r))
            (pick (fun z => ite' (allocK z) (ite' (subM z.pm L) (okHead (Nat.lor L A) todo z) false) false) todo []
              (fun z todo' => fN (cloOf allK z.pm) fun c => chk (pairsA allK c z) 283 <|
                fN (Nat.lor L (bitM z.i)) fun L' => (ih L' (setClo z c :: allK) todo').bd fun r => .ok (.heavy z.i z.o c r))
              (.err [284])))) fuel
noncomputable def plan (C : Cx) (ops : Array Oper) : E Pl := (fun l => fN (allocM l) fun A => build A (ops.size + 1) 0 [] l) (infs C ops ops.toList 0)

/-! ### What a plan promises -/
def PlOk (C : Cx) (ops : Array Oper) : Pl → Nat → List (Nat × Oper) → List (Nat × Oper) → Prop
  | .done, L, _, _ => ∀ j oj, ops[j]? = some oj → L.testBit j = true
  | .light i o b rest, L, K, KA => ops[i]? = some o ∧ L.testBit i = false ∧ (∀ p, Pre o p → L.testBit p = true) ∧ (∀ x ∈ K, MB ops x.1 o ∨ x.2.apart ops o = true) ∧
      lightE C o.op = true ∧ (b = true → blindE o.op = true) ∧ PlOk C ops rest (Nat.lor L (bitM i)) ((i, o) :: K) ((i, o) :: KA)
  | .heavy i o m rest, L, K, KA => ops[i]? = some o ∧ L.testBit i = false ∧ (∀ p, Pre o p → L.testBit p = true) ∧ (∀ x ∈ K, MB ops x.1 o ∨ x.2.apart ops o = true) ∧
      (∀ x ∈ K, m.testBit x.1 = true → MB ops x.1 o) ∧
      (∀ j oj, ops[j]? = some oj → L.testBit j = false → j ≠ i → allocE C oj = true ∨ ∃ p, Pre oj p ∧ L.testBit p = false ∧ (p = i ∨ ∀ op, ops[p]? = some op → allocE C op = false)) ∧
      (allocE C o = true → ∀ x ∈ KA, MB ops x.1 o ∨ x.2.apart ops o = true) ∧ PlOk C ops rest (Nat.lor L (bitM i)) K ((i, o) :: KA)
/-- A new variable that is still to come meets nothing that went ahead of it without need. -/
theorem PlOk.later {C : Cx} {ops : Array Oper} {j : Nat} {oj : Oper} (hj : ops[j]? = some oj) (ha : allocE C oj = true) : ∀ (pl : Pl) (L : Nat) (K KA : List (Nat × Oper)), PlOk C ops pl L K KA → L.testBit j = false →
    ∀ x ∈ KA, MB ops x.1 oj ∨ x.2.apart ops oj = true := by
  intro pl
  induction pl with
  | done => intro L K KA h hL; rw [h j oj hj] at hL; cases hL
  | light i o b rest ih =>
    intro L K KA h hL x hx
    obtain ⟨h1, h2, h3, h4, h5, h6, h7⟩ := h
    by_cases hij : i = j
    · subst hij
      have : o = oj := Option.some.inj (h1.symm.trans hj)
      subst this
      obtain ⟨_, el, z, ho, _⟩ := allocE_spec ha
      rw [ho] at h5; cases h5
    · exact ih _ _ _ h7 (by rw [testBit_lor, hL, testBit_bitM]; simp [hij]) x (List.mem_cons_of_mem _ hx)
  | heavy i o m rest ih =>
    intro L K KA h hL x hx
    obtain ⟨h1, h2, h3, h4, h5, h6, h7, h8⟩ := h
    by_cases hij : i = j
    · subst hij
      have : o = oj := Option.some.inj (h1.symm.trans hj)
      subst this
      exact h7 ha x hx
    · exact ih _ _ _ h8 (by rw [testBit_lor, hL, testBit_bitM]; simp [hij]) x (List.mem_cons_of_mem _ hx)
structure InfOk (C : Cx) (ops : Array Oper) (z : Inf) : Prop where
  op : ops[z.i]? = some z.o
  pm : z.pm = preM z.o
  dm : z.dm = dstM z.o
  lm : z.lm = lookM ops z.o
  kind : z.kind = kindOf C z.o
theorem InfOk.light {C : Cx} {ops : Array Oper} {z : Inf} (h : InfOk C ops z) (hl : lightK z = true) : lightE C z.o.op = true ∧ (Nat.beq z.kind 0 = true → blindE z.o.op = true) := by
  have hk : z.kind < 2 := by simpa [lightK, Nat.blt_eq] using hl
  rw [h.kind] at hk ⊢
  unfold kindOf at hk ⊢
  cases h1 : lightE C z.o.op with
  | false =>
    rw [h1] at hk
    cases h3 : allocE C z.o with
    | false => rw [h3] at hk; simp at hk
    | true => rw [h3] at hk; simp at hk
  | true =>
    refine ⟨rfl, ?_⟩
    cases h2 : blindE z.o.op with
    | true => intro _; rfl
    | false => intro h3; simp at h3
theorem InfOk.alloc {C : Cx} {ops : Array Oper} {z : Inf} (h : InfOk C ops z) : allocE C z.o = allocK z := by
  unfold allocK
  rw [h.kind]
  unfold kindOf
  cases h1 : lightE C z.o.op with
  | true =>
    have : allocE C z.o = false := by
      cases h2 : allocE C z.o with
      | false => rfl
      | true =>
        obtain ⟨_, el, zz, ho, _⟩ := allocE_spec h2
        rw [ho] at h1; cases h1
    rw [this]
    cases blindE z.o.op <;> rfl
  | false => cases allocE C z.o <;> rfl
theorem apartM_spec {C : Cx} {ops : Array Oper} {x z : Inf} (hx : InfOk C ops x) (hz : InfOk C ops z) (h : apartM x z = true) : x.o.apart ops z.o = true := by
  unfold apartM at h
  cases h1 : disM x.dm (Nat.lor z.lm z.dm) with
  | false => rw [h1] at h; cases h
  | true =>
    rw [h1, ite'_true] at h
    unfold Oper.apart
    rw [Bool.and_eq_true]
    constructor
    · cases hd : x.o.dst with
      | none => rfl
      | some d =>
        have := disM_spec h1 d (by rw [hx.dm]; exact dstM_has.2 hd)
        rw [testBit_lor, Bool.or_eq_false_iff, hz.lm, hz.dm] at this
        simp only [Bool.and_eq_true, Bool.not_eq_true', bne_iff_ne, ne_eq]
        refine ⟨?_, fun he => ?_⟩
        · cases hc : (z.o.looksAt ops).contains d with
          | false => rfl
          | true =>
            have := this.1
            rw [lookM_has.2 (by simpa using hc)] at this
            cases this
        · have := this.2
          rw [dstM_has.2 he] at this
          cases this
    · cases hd : z.o.dst with
      | none => rfl
      | some d =>
        have := disM_spec h d (by rw [hz.dm]; exact dstM_has.2 hd)
        rw [hx.lm] at this
        simp only [Bool.not_eq_true']
        cases hc : (x.o.looksAt ops).contains d with
        | false => rfl
        | true =>
          rw [lookM_has.2 (by simpa using hc)] at this
          cases this
theorem allB_spec {α : Type} {p : α → Bool} {l : List α} (h : allB p l = true) : ∀ x ∈ l, p x = true := by
  induction l with
  | nil => intro x hx; cases hx
  | cons a l ih =>
    have h : ite' (p a) (allB p l) false = true := h
    cases hp : p a with
    | false => rw [hp] at h; cases h
    | true =>
      rw [hp, ite'_true] at h
      intro x hx
      rcases List.mem_cons.1 hx with rfl | hx
      · exact hp
      · exact ih h x hx
theorem pick_spec {β : Type} {p : Inf → Bool} {n : E β} {b : β} : ∀ (l pre : List Inf) (k : Inf → List Inf → E β), pick p l pre k n = .ok b →
    (∃ z l', p z = true ∧ k z l' = .ok b ∧ List.Perm (z :: l') (pre ++ l)) ∨ (n = .ok b ∧ ∀ z ∈ l, p z = false) := by
  intro l
  induction l with
  | nil => intro pre k h; exact .inr ⟨h, fun z hz => by cases hz⟩
  | cons a l ih =>
    intro pre k h
    have h : ite' (p a) (k a (pre ++ l)) (pick p l (a :: pre) k n) = .ok b := h
    cases hp : p a with
    | true =>
      rw [hp, ite'_true] at h
      exact .inl ⟨a, pre ++ l, hp, h, List.perm_middle.symm⟩
    | false =>
      rw [hp, ite'_false] at h
      rcases ih (a :: pre) k h with ⟨z, l', h1, h2, h3⟩ | ⟨h1, h2⟩
      · exact .inl ⟨z, l', h1, h2, h3.trans (by simpa using List.perm_middle.symm)⟩
      · refine .inr ⟨h1, fun z hz => ?_⟩
        rcases List.mem_cons.1 hz with rfl | hz
        · exact hp
        · exact h2 z hz
structure BldOk (C : Cx) (ops : Array Oper) (L : Nat) (allK todo : List Inf) : Prop where
  okK : ∀ x ∈ allK, InfOk C ops x ∧ ∀ p, x.clo.testBit p = true → MB ops p x.o
  okT : ∀ x ∈ todo, InfOk C ops x ∧ L.testBit x.i = false
  dup : todo.Pairwise fun x y => x.i ≠ y.i
  all : ∀ j oj, ops[j]? = some oj → L.testBit j = false → ∃ x ∈ todo, x.i = j
noncomputable def keyK (allK : List Inf) : List (Nat × Oper) := (allK.filter lightK).map fun x => (x.i, x.o)
theorem clo_spec {C : Cx} {ops : Array Oper} {allK : List Inf} {z : Inf} (hK : ∀ x ∈ allK, InfOk C ops x ∧ ∀ p, x.clo.testBit p = true → MB ops p x.o) (hz : z.pm = preM z.o) :
    ∀ p, (cloOf allK z.pm).testBit p = true → MB ops p z.o := by
  intro p hp S hS hpre
  unfold cloOf at hp
  rw [orL_has] at hp
  obtain ⟨x, hx, hp⟩ := hp
  cases hh : hasM z.pm x.i with
  | false => rw [hh] at hp; simp at hp
  | true =>
    rw [hh, ite'_true, testBit_lor, testBit_bitM, Bool.or_eq_true] at hp
    rw [hasM_eq, hz, preM_has] at hh
    have hSx := hpre _ hh
    rcases hp with hp | hp
    · have : x.i = p := by simpa using hp
      rw [← this]; exact hSx
    · exact (hK x hx).2 p hp S hS fun q hq => hS x.i x.o (hK x hx).1.op hSx q hq
theorem pairs_spec {C : Cx} {ops : Array Oper} {allK : List Inf} {z : Inf} {c : Nat} (hK : ∀ x ∈ allK, InfOk C ops x ∧ ∀ p, x.clo.testBit p = true → MB ops p x.o) (hz : InfOk C ops z)
    (hc : ∀ p, c.testBit p = true → MB ops p z.o) (h : pairsB allK c z = true) : ∀ x ∈ keyK allK, MB ops x.1 z.o ∨ x.2.apart ops z.o = true := by
  intro x hx
  obtain ⟨y, hy, rfl⟩ := List.mem_map.1 hx
  obtain ⟨hy, hl⟩ := List.mem_filter.1 hy
  have := allB_spec h y hy
  rw [hl, ite'_true] at this
  cases hh : hasM c y.i with
  | true => rw [hasM_eq] at hh; exact .inl (hc _ hh)
  | false =>
    rw [hh, ite'_false] at this
    exact .inr (apartM_spec (hK y hy).1 hz this)
theorem pairsA_spec {C : Cx} {ops : Array Oper} {allK : List Inf} {z : Inf} {c : Nat} (hK : ∀ x ∈ allK, InfOk C ops x ∧ ∀ p, x.clo.testBit p = true → MB ops p x.o) (hz : InfOk C ops z)
    (hc : ∀ p, c.testBit p = true → MB ops p z.o) (h : pairsA allK c z = true) : ∀ x ∈ allK, MB ops x.i z.o ∨ x.o.apart ops z.o = true := by
  intro x hx
  have := allB_spec h x hx
  cases hh : hasM c x.i with
  | true => rw [hasM_eq] at hh; exact .inl (hc _ hh)
  | false =>
    rw [hh, ite'_false] at this
    exact .inr (apartM_spec (hK x hx).1 hz this)
noncomputable def keyA (allK : List Inf) : List (Nat × Oper) := allK.map fun x => (x.i, x.o)
theorem mem_keyA {allK : List Inf} {x : Nat × Oper} (h : x ∈ keyA allK) : ∃ y ∈ allK, x = (y.i, y.o) := by
  obtain ⟨y, hy, rfl⟩ := List.mem_map.1 h
  exact ⟨y, hy, rfl⟩
theorem mem_keyK_A {allK : List Inf} {x : Nat × Oper} (h : x ∈ keyK allK) : x ∈ keyA allK := by
  obtain ⟨y, hy, rfl⟩ := List.mem_map.1 h
  exact List.mem_map.2 ⟨y, (List.mem_filter.1 hy).1, rfl⟩
theorem BldOk.take {C : Cx} {ops : Array Oper} {L : Nat} {allK todo todo' : List Inf} {z : Inf} {c : Nat} (h : BldOk C ops L allK todo) (hp : List.Perm (z :: todo') todo)
    (hc : ∀ p, c.testBit p = true → MB ops p z.o) : BldOk C ops (Nat.lor L (bitM z.i)) (setClo z c :: allK) todo' where
  okK := fun x hx => by
    rcases List.mem_cons.1 hx with rfl | hx
    · have := (h.okT z (hp.subset (List.mem_cons_self ..))).1
      exact ⟨⟨this.op, this.pm, this.dm, this.lm, this.kind⟩, hc⟩
    · exact h.okK x hx
  okT := fun x hx => by
    have h1 := h.okT x (hp.subset (List.mem_cons_of_mem _ hx))
    refine ⟨h1.1, ?_⟩
    have hd : (z :: todo').Pairwise fun x y => x.i ≠ y.i := (List.Perm.pairwise_iff (fun h => Ne.symm h) hp).2 h.dup
    have := (List.pairwise_cons.1 hd).1 x hx
    rw [testBit_lor, h1.2, testBit_bitM]
    simp [this]
  dup := (List.pairwise_cons.1 ((List.Perm.pairwise_iff (fun h => Ne.symm h) hp).2 h.dup)).2
  all := fun j oj hj hL => by
    rw [testBit_lor, testBit_bitM, Bool.or_eq_false_iff] at hL
    obtain ⟨x, hx, rfl⟩ := h.all j oj hj hL.1
    rcases List.mem_cons.1 (hp.symm.subset hx) with rfl | hx
    · simp at hL
    · exact ⟨x, hx, rfl⟩
theorem ite'_and2 {a b : Bool} (h : ite' a b false = true) : a = true ∧ b = true := by
  cases a with
  | true => exact ⟨rfl, h⟩
  | false => cases h
theorem okHead_spec {C : Cx} {ops : Array Oper} {L A : Nat} {allK todo : List Inf} {z : Inf} (hB : BldOk C ops L allK todo) (hA : ∀ p op, ops[p]? = some op → allocE C op = true → A.testBit p = true) (hzL : L.testBit z.i = false) (h : okHead (Nat.lor L A) todo z = true) :
    ∀ j oj, ops[j]? = some oj → L.testBit j = false → j ≠ z.i → allocE C oj = true ∨ ∃ p, Pre oj p ∧ L.testBit p = false ∧ (p = z.i ∨ ∀ op, ops[p]? = some op → allocE C op = false) := by
  intro j oj hj hL hne
  obtain ⟨x, hx, rfl⟩ := hB.all j oj hj hL
  have hxo := (hB.okT x hx).1
  have hoj : x.o = oj := Option.some.inj (hxo.op.symm.trans hj)
  have h1 := allB_spec h x hx
  rw [beq_f hne, ite'_false] at h1
  cases ha : allocK x with
  | true => exact .inl (by rw [← hoj, hxo.alloc]; exact ha)
  | false =>
    rw [ha, ite'_false] at h1
    cases hm : hasM x.pm z.i with
    | true =>
      rw [hasM_eq, hxo.pm, preM_has, hoj] at hm
      exact .inr ⟨z.i, hm, hzL, .inl rfl⟩
    | false =>
    rw [hm, ite'_false, Bool.not_eq_true'] at h1
    obtain ⟨p, hp, hp'⟩ := subM_not h1
    rw [testBit_lor, Bool.or_eq_false_iff] at hp'
    rw [hxo.pm, preM_has, hoj] at hp
    refine .inr ⟨p, hp, hp'.1, .inr fun op hop => ?_⟩
    cases hao : allocE C op with
    | false => rfl
    | true => rw [hA p op hop hao] at hp'; cases hp'.2
theorem build_ok {C : Cx} {ops : Array Oper} {A : Nat} (hA : ∀ p op, ops[p]? = some op → allocE C op = true → A.testBit p = true) : ∀ (fuel L : Nat) (allK todo : List Inf) (pl : Pl), BldOk C ops L allK todo → build A fuel L allK todo = .ok pl → PlOk C ops pl L (keyK allK) (keyA allK) := by
  intro fuel
  induction fuel with
  | zero => intro L allK todo pl _ e; cases e
  | succ fuel ih =>
    intro L allK todo pl hB e
    cases todo with
    | nil =>
      have e : (E.ok Pl.done : E Pl) = .ok pl := e
      injection e with e
      subst e
      intro j oj hj
      cases hL : L.testBit j with
      | true => rfl
      | false => obtain ⟨x, hx, _⟩ := hB.all j oj hj hL; cases hx
    | cons t0 ts =>
      generalize htd : t0 :: ts = todo at hB e
      have e : pick (fun z => ite' (lightK z) (subM z.pm L) false) todo []
          (fun z todo' => fN (cloOf allK z.pm) fun c => chk (pairsB allK c z) 281 <|
            fN (Nat.lor L (bitM z.i)) fun L' => (build A fuel L' (setClo z c :: allK) todo').bd fun r => .ok (.light z.i z.o (Nat.beq z.kind 0) r))
          (pick (fun z => ite' (Nat.beq z.kind 2) (ite' (subM z.pm L) (okHead (Nat.lor L A) todo z) false) false) todo []
            (fun z todo' => fN (cloOf allK z.pm) fun c => chk (pairsB allK c z) 282 <|
              fN (Nat.lor L (bitM z.i)) fun L' => (build A fuel L' (setClo z c :: allK) todo').bd fun r => .ok (.heavy z.i z.o c r))
            (pick (fun z => ite' (allocK z) (ite' (subM z.pm L) (okHead (Nat.lor L A) todo z) false) false) todo []
              (fun z todo' => fN (cloOf allK z.pm) fun c => chk (pairsA allK c z) 283 <|
                fN (Nat.lor L (bitM z.i)) fun L' => (build A fuel L' (setClo z c :: allK) todo').bd fun r => .ok (.heavy z.i z.o c r))
              (.err [284]))) = .ok pl := by subst htd; exact e
      have hkL : ∀ (z : Inf) (c : Nat), lightK z = true → keyK (setClo z c :: allK) = (z.i, z.o) :: keyK allK := fun z c hl => by
        unfold keyK
        rw [List.filter_cons, if_pos (show lightK (setClo z c) = true from hl)]
        rfl
      have hkH : ∀ (z : Inf) (c : Nat), lightK z = false → keyK (setClo z c :: allK) = keyK allK := fun z c hl => by
        unfold keyK
        rw [List.filter_cons, if_neg (show ¬ lightK (setClo z c) = true from by rw [show lightK (setClo z c) = lightK z from rfl, hl]; simp)]
      have hkA : ∀ (z : Inf) (c : Nat), keyA (setClo z c :: allK) = (z.i, z.o) :: keyA allK := fun z c => rfl
      rcases pick_spec todo [] _ e with ⟨z, todo', hz, h1, h2⟩ | ⟨h1, hno⟩
      · rw [List.nil_append] at h2
        obtain ⟨hzo, hzL⟩ := hB.okT z (h2.subset (List.mem_cons_self ..))
        rw [fN_eq] at h1
        obtain ⟨g1, g2⟩ := chk_ok h1
        rw [fN_eq] at g2
        obtain ⟨r, g3, g4⟩ := E.bd_eq_ok g2
        injection g4 with g4
        subst g4
        obtain ⟨hl, hz⟩ := ite'_and2 hz
        have hc := clo_spec hB.okK hzo.pm
        have := ih _ _ _ _ (hB.take h2 hc) g3
        rw [hkL z _ hl, hkA] at this
        exact ⟨hzo.op, hzL, fun p hp => subM_spec hz p (by rw [hzo.pm]; exact preM_has.2 hp), pairs_spec hB.okK hzo hc g1, (hzo.light hl).1, (hzo.light hl).2, this⟩
      · rcases pick_spec todo [] _ h1 with ⟨z, todo', hz, h1, h2⟩ | ⟨h1, _⟩
        · rw [List.nil_append] at h2
          obtain ⟨hzo, hzL⟩ := hB.okT z (h2.subset (List.mem_cons_self ..))
          rw [fN_eq] at h1
          obtain ⟨g1, g6⟩ := chk_ok h1
          rw [fN_eq] at g6
          obtain ⟨r, g3, g4⟩ := E.bd_eq_ok g6
          injection g4 with g4
          subst g4
          obtain ⟨hk2, hz⟩ := ite'_and2 hz
          obtain ⟨hz, hoh⟩ := ite'_and2 hz
          have hk2 := beq_eq hk2
          have hl : lightK z = false := by unfold lightK; rw [hk2]; rfl
          have hna : allocE C z.o = false := by rw [hzo.alloc]; unfold allocK; rw [hk2]; rfl
          have hc := clo_spec hB.okK hzo.pm
          have := ih _ _ _ _ (hB.take h2 hc) g3
          rw [hkH z _ hl, hkA] at this
          exact ⟨hzo.op, hzL, fun p hp => subM_spec hz p (by rw [hzo.pm]; exact preM_has.2 hp), pairs_spec hB.okK hzo hc g1, fun x _ hx => hc _ hx, okHead_spec hB hA hzL hoh, (fun ha => by rw [hna] at ha; cases ha), this⟩
        · rcases pick_spec todo [] _ h1 with ⟨z, todo', hz, h1, h2⟩ | ⟨h1, _⟩
          · rw [List.nil_append] at h2
            obtain ⟨hzo, hzL⟩ := hB.okT z (h2.subset (List.mem_cons_self ..))
            rw [fN_eq] at h1
            obtain ⟨g1, g6⟩ := chk_ok h1
            rw [fN_eq] at g6
            obtain ⟨r, g3, g4⟩ := E.bd_eq_ok g6
            injection g4 with g4
            subst g4
            obtain ⟨hk3, hz⟩ := ite'_and2 hz
            obtain ⟨hz, hoh⟩ := ite'_and2 hz
            have hl : lightK z = false := by unfold lightK; rw [beq_eq hk3]; rfl
            have hc := clo_spec hB.okK hzo.pm
            have hpa := pairsA_spec hB.okK hzo hc g1
            have := ih _ _ _ _ (hB.take h2 hc) g3
            rw [hkH z _ hl, hkA] at this
            refine ⟨hzo.op, hzL, fun p hp => subM_spec hz p (by rw [hzo.pm]; exact preM_has.2 hp), fun x hx => ?_, fun x _ hx => hc _ hx, okHead_spec hB hA hzL hoh, fun _ x hx => ?_, this⟩
            · obtain ⟨y, hy, rfl⟩ := mem_keyA (mem_keyK_A hx)
              exact hpa y hy
            · obtain ⟨y, hy, rfl⟩ := mem_keyA hx
              exact hpa y hy
          · cases h1
theorem infs_ok {C : Cx} {ops : Array Oper} : ∀ (l : List Oper) (i : Nat), (∀ j, l[j]? = ops[i + j]?) → (∀ x ∈ infs C ops l i, InfOk C ops x ∧ i ≤ x.i) ∧ (infs C ops l i).Pairwise (fun x y => x.i ≠ y.i) ∧
    ∀ j oj, i ≤ j → ops[j]? = some oj → ∃ x ∈ infs C ops l i, x.i = j := by
  intro l
  induction l with
  | nil =>
    intro i h
    refine ⟨fun x hx => (by cases hx), List.Pairwise.nil, fun j oj hij hj => ?_⟩
    have := h (j - i)
    rw [show i + (j - i) = j by omega, hj] at this
    cases this
  | cons o l ih =>
    intro i h
    have h0 : ops[i]? = some o := by have := h 0; simpa using this.symm
    obtain ⟨h1, h2, h3⟩ := ih (i + 1) fun j => by have := h (j + 1); rw [show i + 1 + j = i + (j + 1) by omega]; simpa using this
    have hd : infs C ops (o :: l) i = mkInf C ops i o :: infs C ops l (i + 1) := rfl
    have hmk : mkInf C ops i o = ⟨i, o, preM o, dstM o, lookM ops o, 0, kindOf C o⟩ := by simp [mkInf]
    rw [hd]
    refine ⟨fun x hx => ?_, List.pairwise_cons.2 ⟨fun x hx => ?_, h2⟩, fun j oj hij hj => ?_⟩
    · rcases List.mem_cons.1 hx with rfl | hx
      · rw [hmk]; exact ⟨⟨h0, rfl, rfl, rfl, rfl⟩, Nat.le_refl _⟩
      · exact ⟨(h1 x hx).1, by have := (h1 x hx).2; omega⟩
    · have := (h1 x hx).2
      rw [hmk]
      show i ≠ x.i
      omega
    · by_cases e : j = i
      · subst e
        exact ⟨_, List.mem_cons_self .., by rw [hmk]⟩
      · obtain ⟨x, hx, hxi⟩ := h3 j oj (by omega) hj
        exact ⟨x, List.mem_cons_of_mem _ hx, hxi⟩
theorem plan_ok {C : Cx} {ops : Array Oper} {pl : Pl} (e : plan C ops = .ok pl) : PlOk C ops pl 0 [] [] := by
  obtain ⟨h1, h2, h3⟩ := infs_ok (C := C) (ops := ops) ops.toList 0 (fun j => by simp)
  have e : fN (allocM (infs C ops ops.toList 0)) (fun A => build A (ops.size + 1) 0 [] (infs C ops ops.toList 0)) = .ok pl := e
  rw [fN_eq] at e
  refine build_ok (fun p op hp ha => ?_) _ _ _ _ _ ⟨fun x hx => (by cases hx), fun x hx => ⟨(h1 x hx).1, Nat.zero_testBit _⟩, h2, fun j oj hj _ => h3 j oj (Nat.zero_le _) hj⟩ e
  obtain ⟨x, hx, rfl⟩ := h3 p op (Nat.zero_le _) hp
  have hxo := (h1 x hx).1
  have : x.o = op := Option.some.inj (hxo.op.symm.trans hp)
  unfold allocM
  rw [orL_has]
  refine ⟨x, hx, ?_⟩
  rw [← hxo.alloc, this, ha, ite'_true, testBit_bitM]
  simp
end Go.Eng
