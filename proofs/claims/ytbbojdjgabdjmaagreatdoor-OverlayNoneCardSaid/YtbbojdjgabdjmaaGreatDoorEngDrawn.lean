/- The abstract evaluator: regions that draw their order, run by their plan; in any order it comes to the same. -/
import Derived.Test.YtbbojdjgabdjmaaGreatDoorEngPlan
namespace Go.Eng
open Go Go.RowKit

/-! ### Are two values the same? -/
noncomputable def fnEq (a b : Fn) : Bool := match a, b with | .func f, .func g => Nat.beq f g | _, _ => false
noncomputable def capEq (a b : ACap) : Bool := match a, b with
  | .kn n, .kn m => Nat.beq n m
  | .op n, .op m => Nat.beq n m
  | .zc n, .zc m => Nat.beq n m
  | _, _ => false
noncomputable def listEq {α : Type} (p : α → α → Bool) (l : List α) : List α → Bool :=
  List.rec (motive := fun _ => List α → Bool) (fun l' => List.rec (motive := fun _ => Bool) true (fun _ _ _ => false) l')
    (fun a _ ih l' => List.rec (motive := fun _ => Bool) false (fun b l' _ => ite' (p a b) (ih l') false) l') l
theorem listEq_ok {α : Type} {p : α → α → Bool} (hp : ∀ a b, p a b = true → a = b) : ∀ (l l' : List α), listEq p l l' = true → l = l' := by
  intro l
  induction l with
  | nil =>
    intro l' h
    cases l' with
    | nil => rfl
    | cons b l' => cases h
  | cons a l ih =>
    intro l' h
    cases l' with
    | nil => cases h
    | cons b l' =>
      have h : ite' (p a b) (listEq p l l') false = true := h
      cases hab : p a b with
      | false => rw [hab] at h; cases h
      | true =>
        rw [hab, ite'_true] at h
        rw [hp a b hab, ih l' h]
noncomputable def avEqS (rec : AV → AV → Bool) (a b : AV) : Bool := match a, b with
  | .bool x, .bool y => ite' x y (!y)
  | .int k n, .int k' m => ite' (decide (k = k')) (decide (n = m)) false
  | .str x, .str y => listEq Nat.beq x y
  | .nilp, .nilp => true
  | .ptr b o, .ptr b' o' => ite' (Nat.beq b b') (Nat.beq o o') false
  | .nils, .nils => true
  | .sl b o z n c, .sl b' o' z' n' c' => ite' (Nat.beq b b') (ite' (Nat.beq o o') (ite' (Nat.beq z z') (ite' (Nat.beq n n') (capEq c c') false) false) false) false
  | .nilm, .nilm => true
  | .map r, .map r' => Nat.beq r r'
  | .func f a c, .func f' a' c' => ite' (fnEq f f') (ite' (listEq rec a a') (listEq rec c c') false) false
  | .nilf, .nilf => true
  | .iface t v, .iface t' v' => ite' (Nat.beq t t') (rec v v') false
  | .nili, .nili => true
  | .agg l, .agg l' => listEq rec l l'
  | .tup l, .tup l' => listEq rec l l'
  | _, _ => false
noncomputable def avEqN (n : Nat) : AV → AV → Bool := Nat.rec (motive := fun _ => AV → AV → Bool) (fun _ _ => false) (fun _ ih => avEqS ih) n
noncomputable def avEq : AV → AV → Bool := avEqN 6
theorem ite'_and {a b : Bool} (h : ite' a b false = true) : a = true ∧ b = true := by
  cases a with
  | true => exact ⟨rfl, h⟩
  | false => cases h
theorem avEqS_ok {rec : AV → AV → Bool} (hr : ∀ a b, rec a b = true → a = b) (a b : AV) (h : avEqS rec a b = true) : a = b := by
  unfold avEqS at h
  split at h
  · rename_i x y; cases x <;> cases y <;> first | rfl | cases h
  · obtain ⟨h1, h2⟩ := ite'_and h
    rw [of_decide_eq_true h1, of_decide_eq_true h2]
  · rw [listEq_ok (fun a b h => beq_eq h) _ _ h]
  · rfl
  · obtain ⟨h1, h2⟩ := ite'_and h
    rw [beq_eq h1, beq_eq h2]
  · rfl
  · obtain ⟨h1, h⟩ := ite'_and h
    obtain ⟨h2, h⟩ := ite'_and h
    obtain ⟨h3, h⟩ := ite'_and h
    obtain ⟨h4, h⟩ := ite'_and h
    rw [beq_eq h1, beq_eq h2, beq_eq h3, beq_eq h4]
    unfold capEq at h
    split at h
    · rw [beq_eq h]
    · rw [beq_eq h]
    · rw [beq_eq h]
    · cases h
  · rfl
  · rw [beq_eq h]
  · obtain ⟨h1, h⟩ := ite'_and h
    obtain ⟨h2, h3⟩ := ite'_and h
    rw [listEq_ok hr _ _ h2, listEq_ok hr _ _ h3]
    unfold fnEq at h1
    split at h1
    · rw [beq_eq h1]
    · cases h1
  · rfl
  · obtain ⟨h1, h2⟩ := ite'_and h
    rw [beq_eq h1, hr _ _ h2]
  · rfl
  · rw [listEq_ok hr _ _ h]
  · rw [listEq_ok hr _ _ h]
  · cases h
theorem avEq_ok (a b : AV) (h : avEq a b = true) : a = b := by
  have : ∀ n a b, avEqN n a b = true → a = b := by
    intro n
    induction n with
    | zero => intro a b h; cases h
    | succ n ih => intro a b h; exact avEqS_ok ih a b h
  exact this 6 a b h

/-! ### Running a plan -/
inductive PE where
  | mk (i : Nat) (c : H → Bool)
noncomputable def PE.i (x : PE) : Nat := PE.rec (motive := fun _ => Nat) (fun i _ => i) x
noncomputable def PE.c (x : PE) (h : H) : Bool := PE.rec (motive := fun _ => Bool) (fun _ c => c h) x
noncomputable def recheck {γ : Type} (l : List PE) (h : H) (k : E γ) : E γ := chk (allB (fun x => x.c h) l) 270 k
noncomputable def dropM {γ : Type} (m : Nat) (l : List PE) : (List PE → E γ) → E γ :=
  List.rec (motive := fun _ => (List PE → E γ) → E γ) (fun k => k []) (fun x _ ih k => ite' (hasM m x.i) (ih k) (ih fun l => k (x :: l))) l
theorem dropM_ok {γ : Type} {m : Nat} {q : γ} : ∀ (l : List PE) (k : List PE → E γ), dropM m l k = .ok q → ∃ l', k l' = .ok q ∧ ∀ x ∈ l, m.testBit x.i = false → x ∈ l' := by
  intro l
  induction l with
  | nil => intro k e; exact ⟨[], e, fun x hx => by cases hx⟩
  | cons x l ih =>
    intro k e
    have e : ite' (hasM m x.i) (dropM m l k) (dropM m l fun l => k (x :: l)) = .ok q := e
    cases hh : hasM m x.i with
    | true =>
      rw [hh, ite'_true] at e
      obtain ⟨l', h1, h2⟩ := ih _ e
      refine ⟨l', h1, fun y hy hm => ?_⟩
      rcases List.mem_cons.1 hy with rfl | hy
      · rw [hasM_eq, hm] at hh; cases hh
      · exact h2 y hy hm
    | false =>
      rw [hh, ite'_false] at e
      obtain ⟨l', h1, h2⟩ := ih _ e
      refine ⟨x :: l', h1, fun y hy hm => ?_⟩
      rcases List.mem_cons.1 hy with rfl | hy
      · exact List.mem_cons_self ..
      · exact List.mem_cons_of_mem _ (h2 y hy hm)
noncomputable def nxV (x : Nx) : E AV := Nx.rec (motive := fun _ => E AV) (fun v _ => .ok v) (fun _ _ _ => .err [271]) (fun _ _ _ => .err [272]) x
noncomputable def lightV (C : Cx) (o : Op) (fr : Fr) (h : H) : E AV := (opE o C fr h).bd nxV
noncomputable def chkV (C : Cx) (o : Op) (fr : Fr) (v : AV) (h : H) : Bool := E.rec (motive := fun _ => Bool) (fun v' => avEq v v') (fun _ => false) (lightV C o fr h)
noncomputable def runPl (C : Cx) (call : FuncId → List AV → H → E (AV × H)) (round : Nat → List AV → H → E (AV × H)) (all : List Oper) (pl : Pl) : List PE → Fr → H → E (Fr × H) :=
  Pl.rec (motive := fun _ => List PE → Fr → H → E (Fr × H)) (fun _ fr h => .ok (fr, h))
    (fun i o b _ ih pe fr h => ite' (wantedV all fr o)
      ((lightV C o.op fr h).bd fun v => putF fr o.dst v fun fr' => nx (ih (ite' b pe (.mk i (chkV C o.op fr v) :: pe)) fr' h))
      (putF fr o.dst (.tup []) fun fr' => nx (ih pe fr' h)))
    (fun _ o m _ ih pe fr h => ite' (wantedV all fr o)
      ((oneV C call round fr h o).bd2 fun v h' => putF fr o.dst v fun fr' => dropM m pe fun pe => recheck pe h' (nx (ih pe fr' h')))
      (putF fr o.dst (.tup []) fun fr' => nx (ih pe fr' h))) pl
noncomputable def drawnV (C : Cx) : Drawn := fun call round ops fr h => (plan C ops).bd fun pl => runPl C call round ops.toList pl [] fr h

/-! ### What an operation that leaves the world alone comes to -/
theorem blind_ok {C : Cx} {o : Op} {fr : Fr} {h : H} {x : Nx} (hb : blindE o = true) (e : opE o C fr h = .ok x) : ∃ v, x = .val v h ∧ ∀ h2, opE o C fr h2 = .ok (.val v h2) := by
  have key : ∀ {m : E AV}, val h m = .ok x → ∃ v, x = .val v h ∧ ∀ h2, val h2 m = .ok (.val v h2) := fun {m} e => by
    obtain ⟨v, rfl, rfl⟩ := val_ok e
    exact ⟨v, rfl, fun h2 => rfl⟩
  cases o <;> try (cases hb; done)
  case move y => exact key e
  case assign y => exact key e
  case pick c y z =>
    obtain ⟨cv, h1, e1⟩ := E.bd_eq_ok e
    obtain ⟨b, h2, e2⟩ := E.bd_eq_ok e1
    obtain ⟨v, rfl, hv⟩ := key e2
    refine ⟨v, rfl, fun h3 => ?_⟩
    show ((evO fr c).bd fun c => (boolOf c).bd fun c => val h3 (ite' c (evO fr y) (evO fr z))) = _
    rw [h1, E.bd_ok, h2, E.bd_ok]; exact hv h3
  case build t ps =>
    obtain ⟨cv, h1, e1⟩ := E.bd_eq_ok e
    obtain ⟨v, rfl, hv⟩ := key e1
    refine ⟨v, rfl, fun h3 => ?_⟩
    show ((evPs fr ps.toList).bd fun ps => val h3 (buildV C t ps)) = _
    rw [h1, E.bd_ok]; exact hv h3
  case nilCheck y =>
    obtain ⟨cv, h1, e1⟩ := E.bd_eq_ok e
    obtain ⟨v, rfl, hv⟩ := key e1
    refine ⟨v, rfl, fun h3 => ?_⟩
    show ((evO fr y).bd fun v => val h3 (nilChk v)) = _
    rw [h1, E.bd_ok]; exact hv h3
  case binOp op t y z t' =>
    obtain ⟨v1, h1, e1⟩ := E.bd_eq_ok e
    obtain ⟨v2, h2, e2⟩ := E.bd_eq_ok e1
    obtain ⟨v, rfl, hv⟩ := key e2
    refine ⟨v, rfl, fun h3 => ?_⟩
    show ((evO fr y).bd fun x => (evO fr z).bd fun y => val h3 (binV C h3 op t x y)) = _
    rw [h1, E.bd_ok, h2, E.bd_ok]
    have : binV C h3 op t v1 v2 = binV C h op t v1 v2 := by
      cases op <;> first | (cases hb; done) | rfl
    rw [this]
    exact hv h3
  case unOp op t y =>
    obtain ⟨cv, h1, e1⟩ := E.bd_eq_ok e
    obtain ⟨v, rfl, hv⟩ := key e1
    refine ⟨v, rfl, fun h3 => ?_⟩
    show ((evO fr y).bd fun x => val h3 (unV op x)) = _
    rw [h1, E.bd_ok]; exact hv h3
  case makeInterface t y =>
    obtain ⟨cv, h1, e1⟩ := E.bd_eq_ok e
    obtain ⟨v, rfl, hv⟩ := key e1
    refine ⟨v, rfl, fun h3 => ?_⟩
    show ((evO fr y).bd fun x => val h3 (mkIface C t x)) = _
    rw [h1, E.bd_ok]; exact hv h3
  case makeFunc fn f c =>
    obtain ⟨v1, h1, e1⟩ := E.bd_eq_ok e
    obtain ⟨v2, h2, e2⟩ := E.bd_eq_ok e1
    obtain ⟨h4, e3⟩ := chk_ok e2
    obtain ⟨v, rfl, hv⟩ := key e3
    refine ⟨v, rfl, fun h3 => ?_⟩
    show oFunc fn f c C fr h3 = _
    unfold oFunc
    rw [h1, E.bd_ok, h2, E.bd_ok, h4]; exact hv h3
  case fieldAddr t y f =>
    obtain ⟨cv, h1, e1⟩ := E.bd_eq_ok e
    obtain ⟨v, rfl, hv⟩ := key e1
    refine ⟨v, rfl, fun h3 => ?_⟩
    show ((evO fr y).bd fun x => val h3 (fieldA C t x f)) = _
    rw [h1, E.bd_ok]; exact hv h3
  case field t y f =>
    obtain ⟨cv, h1, e1⟩ := E.bd_eq_ok e
    obtain ⟨v, rfl, hv⟩ := key e1
    refine ⟨v, rfl, fun h3 => ?_⟩
    show ((evO fr y).bd fun x => val h3 (fieldV C t x f)) = _
    rw [h1, E.bd_ok]; exact hv h3
  case indexAddr t y i =>
    obtain ⟨v1, h1, e1⟩ := E.bd_eq_ok e
    obtain ⟨v2, h2, e2⟩ := E.bd_eq_ok e1
    obtain ⟨v, rfl, hv⟩ := key e2
    refine ⟨v, rfl, fun h3 => ?_⟩
    show ((evO fr y).bd fun x => (evO fr i).bd fun i => val h3 (idxAddr C t x i)) = _
    rw [h1, E.bd_ok, h2, E.bd_ok]; exact hv h3
  case index t y i =>
    obtain ⟨v1, h1, e1⟩ := E.bd_eq_ok e
    obtain ⟨v2, h2, e2⟩ := E.bd_eq_ok e1
    obtain ⟨v, rfl, hv⟩ := key e2
    refine ⟨v, rfl, fun h3 => ?_⟩
    show ((evO fr y).bd fun x => (evO fr i).bd fun i => val h3 (idxV C t x i)) = _
    rw [h1, E.bd_ok, h2, E.bd_ok]; exact hv h3
  case typeAssert y xt t ok =>
    obtain ⟨cv, h1, e1⟩ := E.bd_eq_ok e
    obtain ⟨v, rfl, hv⟩ := key e1
    refine ⟨v, rfl, fun h3 => ?_⟩
    show ((evO fr y).bd fun x => val h3 (assertV C x t ok)) = _
    rw [h1, E.bd_ok]; exact hv h3
  case extract y i =>
    obtain ⟨cv, h1, e1⟩ := E.bd_eq_ok e
    obtain ⟨v, rfl, hv⟩ := key e1
    refine ⟨v, rfl, fun h3 => ?_⟩
    show ((evO fr y).bd fun x => val h3 (extrV x i)) = _
    rw [h1, E.bd_ok]; exact hv h3

section
variable (P : Program) (ops : Array Oper)
/-- An operation yields u here, and leaves the world as it is. -/
def Lt (o : Oper) (a : Act) (w : World) (u : Value) : Prop :=
  (Region.wanted o (yielded ops a.tmps) = true ∧ (execOp a.eval o).run P w = .ok (.value u) w) ∨ (Region.wanted o (yielded ops a.tmps) = false ∧ u = undef)
end
section
variable {P : Program} {ops : Array Oper} {C : Cx}
theorem light_ns {o : Oper} (hl : lightE C o.op = true) : (∀ cs b, o.op ≠ .select cs b) ∧ ∀ c, o.op ≠ .defer c :=
  ⟨fun cs b h => (by rw [h] at hl; cases hl), fun c h => (by rw [h] at hl; cases hl)⟩
theorem Lt.put {o : Oper} (hl : lightE C o.op = true) {a : Act} {dst : Option Tmp} {v u : Value} {w : World} (h : ∀ d, dst = some d → d ∉ o.looksAt ops) (e : Lt P ops o a w u) : Lt P ops o (a.put dst v) w u := by
  unfold Lt at *
  rw [wanted_put o a dst v h, execOp_put o (light_ns hl).1 a dst v h]
  exact e
theorem Lt.unput {o : Oper} (hl : lightE C o.op = true) {a : Act} {dst : Option Tmp} {v u : Value} {w : World} (h : ∀ d, dst = some d → d ∉ o.looksAt ops) (e : Lt P ops o (a.put dst v) w u) : Lt P ops o a w u := by
  unfold Lt at *
  rw [wanted_put o a dst v h, execOp_put o (light_ns hl).1 a dst v h] at e
  exact e
structure Pd where
  i : Nat
  o : Oper
  u : Value
  c : H → Bool
def putsD (a : Act) (D : List Pd) : Act := D.foldl (fun a d => a.put d.o.dst d.u) a
theorem putsD_append (a : Act) (D E : List Pd) : putsD a (D ++ E) = putsD (putsD a D) E := by unfold putsD; rw [List.foldl_append]
theorem putsD_put {dst : Option Tmp} {v : Value} : ∀ (D : List Pd) (a : Act), (∀ d ∈ D, ∀ t, dst = some t → d.o.dst ≠ some t) → putsD (a.put dst v) D = (putsD a D).put dst v := by
  intro D
  induction D with
  | nil => intro a _; rfl
  | cons d D ih =>
    intro a h
    show putsD ((a.put dst v).put d.o.dst d.u) D = (putsD (a.put d.o.dst d.u) D).put dst v
    rw [Act.put_comm a v d.u (h d (List.mem_cons_self ..))]
    exact ih _ fun e he => h e (List.mem_cons_of_mem _ he)
theorem wanted_puts {o : Oper} : ∀ (D : List Pd) (a : Act), (∀ d ∈ D, d.o.apart ops o = true) → Region.wanted o (yielded ops (putsD a D).tmps) = Region.wanted o (yielded ops a.tmps) := by
  intro D
  induction D with
  | nil => intro a _; rfl
  | cons d D ih =>
    intro a h
    show Region.wanted o (yielded ops (putsD (a.put d.o.dst d.u) D).tmps) = _
    rw [ih _ fun e he => h e (List.mem_cons_of_mem _ he), wanted_put o a _ _ (Oper.apart_spec (h d (List.mem_cons_self ..))).1]
theorem execOp_puts {o : Oper} (hs : ∀ cs b, o.op ≠ .select cs b) : ∀ (D : List Pd) (a : Act), (∀ d ∈ D, d.o.apart ops o = true) → execOp (putsD a D).eval o = execOp a.eval o := by
  intro D
  induction D with
  | nil => intro a _; rfl
  | cons d D ih =>
    intro a h
    show execOp (putsD (a.put d.o.dst d.u) D).eval o = _
    rw [ih _ fun e he => h e (List.mem_cons_of_mem _ he), execOp_put o hs a _ _ (Oper.apart_spec (h d (List.mem_cons_self ..))).1]
/-- Along what is still to be done. -/
def Walk (p : Act → Pd → Prop) : Act → List Pd → Prop
  | _, [] => True
  | a, d :: D => p a d ∧ Walk p (a.put d.o.dst d.u) D
theorem Walk.append {p : Act → Pd → Prop} : ∀ (D E : List Pd) (a : Act), Walk p a (D ++ E) ↔ Walk p a D ∧ Walk p (putsD a D) E := by
  intro D
  induction D with
  | nil => intro E a; exact ⟨fun h => ⟨trivial, h⟩, fun h => h.2⟩
  | cons d D ih =>
    intro E a
    show p a d ∧ Walk p (a.put d.o.dst d.u) (D ++ E) ↔ (p a d ∧ Walk p (a.put d.o.dst d.u) D) ∧ Walk p (putsD (a.put d.o.dst d.u) D) E
    rw [ih, and_assoc]
theorem Walk.put {p : Act → Pd → Prop} {dst : Option Tmp} {v : Value} : ∀ (D : List Pd) (a : Act),
    (∀ d ∈ D, (∀ a, p a d → p (a.put dst v) d) ∧ ∀ t, dst = some t → d.o.dst ≠ some t) → Walk p a D → Walk p (a.put dst v) D := by
  intro D
  induction D with
  | nil => intro a _ _; trivial
  | cons d D ih =>
    intro a h hw
    refine ⟨(h d (List.mem_cons_self ..)).1 a hw.1, ?_⟩
    rw [Act.put_comm a v d.u (h d (List.mem_cons_self ..)).2]
    exact ih _ (fun e he => h e (List.mem_cons_of_mem _ he)) hw.2
theorem Walk.mono {p q : Act → Pd → Prop} : ∀ (D : List Pd) (a : Act), (∀ d ∈ D, ∀ a, p a d → q a d) → Walk p a D → Walk q a D := by
  intro D
  induction D with
  | nil => intro a _ _; trivial
  | cons d D ih => intro a h hw; exact ⟨h d (List.mem_cons_self ..) a hw.1, ih _ (fun e he => h e (List.mem_cons_of_mem _ he)) hw.2⟩
def Ords : (Nat → Prop) → List Pd → Prop
  | _, [] => True
  | S, d :: D => (∀ p, Pre d.o p → S p) ∧ Ords (fun j => S j ∨ j = d.i) D
theorem Ords.mono : ∀ (D : List Pd) (S T : Nat → Prop), (∀ j, S j → T j) → Ords S D → Ords T D := by
  intro D
  induction D with
  | nil => intro S T _ _; trivial
  | cons d D ih => intro S T h hw; exact ⟨fun p hp => h p (hw.1 p hp), ih _ _ (fun j hj => hj.imp (h j) id) hw.2⟩
theorem Ords.take {d : Pd} {D2 : List Pd} : ∀ (D1 : List Pd) (S : Nat → Prop), Ords S (D1 ++ d :: D2) → Ords (fun j => S j ∨ j = d.i) (D1 ++ D2) := by
  intro D1
  induction D1 with
  | nil => intro S h; exact h.2
  | cons e D1 ih =>
    intro S h
    refine ⟨fun p hp => .inl (h.1 p hp), ?_⟩
    refine Ords.mono _ _ _ (fun j hj => ?_) (ih _ h.2)
    rcases hj with (hj | hj) | hj
    · exact .inl (.inl hj)
    · exact .inr hj
    · exact .inl (.inr hj)
theorem Ords.append {D2 : List Pd} : ∀ (D1 : List Pd) (S : Nat → Prop), Ords S (D1 ++ D2) ↔ Ords S D1 ∧ Ords (fun j => S j ∨ ∃ d ∈ D1, d.i = j) D2 := by
  intro D1
  induction D1 with
  | nil => intro S; exact ⟨fun h => ⟨trivial, Ords.mono _ _ _ (fun j hj => .inl hj) h⟩, fun h => Ords.mono _ _ _ (fun j hj => hj.elim id fun ⟨d, hd, _⟩ => by cases hd) h.2⟩
  | cons e D1 ih =>
    intro S
    show (_ ∧ Ords _ (D1 ++ D2)) ↔ (_ ∧ Ords _ D1) ∧ _
    rw [ih, and_assoc]
    refine and_congr Iff.rfl (and_congr Iff.rfl ⟨fun h => Ords.mono _ _ _ (fun j hj => ?_) h, fun h => Ords.mono _ _ _ (fun j hj => ?_) h⟩)
    · rcases hj with (hj | rfl) | ⟨d, hd, rfl⟩
      · exact .inl hj
      · exact .inr ⟨e, List.mem_cons_self .., rfl⟩
      · exact .inr ⟨d, List.mem_cons_of_mem _ hd, rfl⟩
    · rcases hj with hj | ⟨d, hd, rfl⟩
      · exact .inl (.inl hj)
      · rcases List.mem_cons.1 hd with rfl | hd
        · exact .inl (.inr rfl)
        · exact .inr ⟨d, hd, rfl⟩
end
end Go.Eng
