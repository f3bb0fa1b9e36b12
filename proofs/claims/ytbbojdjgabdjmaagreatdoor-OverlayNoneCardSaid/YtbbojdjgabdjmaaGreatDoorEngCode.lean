/- The abstract evaluator, soundness 11: regions, code, calls. -/
import Derived.Test.YtbbojdjgabdjmaaGreatDoorEngOp
import Derived.RangeFuncRecord
import Derived.RangeFuncCalls
import Derived.TacticsIn
namespace Go.Eng
open Go Go.RowKit

def FW (r : Option Nat) : Fence := { fn := fun _ => True, depth := none, alive := false, round := r }
/-- What a call comes to. -/
def Ret (B : Nat) (ι : Inj) (h h' : H) (w : World) (v : AV) (e : Ending) (w' : World) : Prop :=
  ∃ ι', e = .returned (conc ι' v) ∧ Stp B ι ι' h h' w w' ∧ okV ι' h'.n v
def CallRes (P : Program) (B : Nat) (ι : Inj) (h h' : H) (w : World) (f : FuncId) (args : List AV) (v : AV) : Prop :=
  ((callFunc f (concL ι args).toArray).run P w = .ok (.enter f (concL ι args).toArray) w ∧ ∀ r n, CallsIn (FW r) n P f (concL ι args).toArray w (Ret B ι h h' w v)) ∨
  ∃ ι' w', (callFunc f (concL ι args).toArray).run P w = .ok (.value (conc ι' v)) w' ∧ Stp B ι ι' h h' w w' ∧ okV ι' h'.n v
def CallOk (P : Program) (call : FuncId → List AV → H → E (AV × H)) : Prop :=
  ∀ f args h v h', call f args h = .ok (v, h') → ∀ B ι w, R B ι h w → Glob ι h → okL ι h.n args → CallRes P B ι h h' w f args v
def RoundRes (P : Program) (B : Nat) (ι : Inj) (h h' : H) (w : World) (l : Nat) (args : List AV) (v : AV) : Prop :=
  ∃ f tmps assign body, (Instr.yield (ι l).blk (concL ι args).toArray).run P w = .ok (.round (ι l).blk f tmps assign body) w ∧
    ∀ r n, RoundIn (FW r) n P (ι l).blk f tmps assign body w (Ret B ι h h' w v)
def RoundOk (P : Program) (round : Nat → List AV → H → E (AV × H)) : Prop :=
  ∀ l args h v h', round l args h = .ok (v, h') → ∀ B ι w, R B ι h w → Glob ι h → okL ι h.n args → l < h.n → RoundRes P B ι h h' w l args v
def exitOf : X → Exit
  | .nrm => .normal
  | .exit id => .exit id
  | .ret => .ret
/-- From here on, related. -/
def Post (B : Nat) (ι : Inj) (h h' : H) (w : World) (fr' : Fr) (r : Option Nat) (K : Act → World → Prop) : Prop :=
  ∀ ι' a' w', Stp B ι ι' h h' w w' → FrR ι' h' fr' a' r → K a' w'
theorem putF_ok {γ : Type} {ι : Inj} {h : H} {fr : Fr} {a : Act} {r : Option Nat} {d : Option Tmp} {v : AV} {k : Fr → E γ} {q : γ} (hF : FrR ι h fr a r) (hv : okV ι h.n v) (e : putF fr d v k = .ok q) :
    ∃ fr', k fr' = .ok q ∧ FrR ι h fr' (a.put d (conc ι v)) r := by
  cases d with
  | none => exact ⟨fr, e, hF⟩
  | some d =>
    obtain ⟨fn, n, t, rnd, defs⟩ := fr
    obtain ⟨h1, h2⟩ := chk_ok (show chk (Nat.blt d n) 220 (T3.set t d v fun t => k ⟨fn, n, t, rnd, defs⟩) = .ok q from e)
    have hd := blt_eq h1
    have hn : n ≤ 512 := hF.tm.1
    obtain ⟨t', g1, g2⟩ := T3.set_eq (i := d) (by omega) t v fun t => k ⟨fn, n, t, rnd, defs⟩
    rw [g1] at h2
    refine ⟨_, h2, ⟨hn, ?_, fun i hi => ?_⟩, hF.df, hF.db, hF.rnd, hF.rb⟩
    · show (a.tmps.setIfInBounds d (conc ι v)).size = n
      rw [Array.size_setIfInBounds]
      exact hF.tm.2.1
    · have hi : i < n := hi
      have hsz : a.tmps.size = n := hF.tm.2.1
      show (a.tmps.setIfInBounds d (conc ι v))[i]? = some (conc ι (T3.get t' i)) ∧ okV ι h.n (T3.get t' i)
      rw [g2 i (by omega), Array.getElem?_setIfInBounds]
      by_cases hdi : i = d
      · subst hdi
        rw [if_pos rfl, if_pos rfl, if_pos (by omega)]
        exact ⟨rfl, hv⟩
      · rw [if_neg (Ne.symm hdi), if_neg hdi]
        exact hF.tm.2.2 i hi
theorem isB_ok {ι : Inj} {v : AV} {w : Bool} : isB v w = ((match conc ι v with | .bool b => some b | _ => none) == some w) := by
  cases v with
  | bool b => cases b <;> cases w <;> rfl
  | sl b off z len c => cases c <;> cases w <;> rfl
  | _ => cases w <;> rfl
theorem wanted_ok {ι : Inj} {h : H} {fr : Fr} {a : Act} {r : Option Nat} (hF : FrR ι h fr a r) (ops : Array Oper) (o : Oper) : Region.wanted o (yielded ops a.tmps) = wantedV ops.toList fr o := by
  unfold Region.wanted wantedV
  cases hg : o.guard with
  | none => rfl
  | some p =>
    obtain ⟨j, want⟩ := p
    simp only [nth_eq, Array.getElem?_toList, yielded]
    cases hj : ops[j]? with
    | none => simp
    | some g =>
      simp only [Option.bind_some]
      cases hd : g.dst with
      | none => simp
      | some d =>
        obtain ⟨fn, n, t, rnd, defs⟩ := fr
        have hsz : a.tmps.size = n := hF.tm.2.1
        show _ = ite' (Nat.blt d n) (isB (T3.get t d) want) false
        simp only [Option.bind_some]
        by_cases hlt : d < n
        · rw [blt_t hlt]
          have := (hF.tm.2.2 d hlt).1
          rw [this, ite'_true, isB_ok (ι := ι)]
          dsimp only
          generalize conc ι (T3.get t d) = u
          cases u <;> rfl
        · rw [blt_f hlt, Array.getElem?_eq_none (show a.tmps.size ≤ d from hsz ▸ Nat.le_of_not_lt hlt)]
          rfl
section
variable {C : Cx} {P : Program} (hC : CxOk C P) {call : FuncId → List AV → H → E (AV × H)} {round : Nat → List AV → H → E (AV × H)} (hcall : CallOk P call) (hround : RoundOk P round)
include hC hcall hround
/-- One operation, calls and all. -/
theorem oneV_ok {B : Nat} {ι : Inj} {h h' : H} {w : World} {fr : Fr} {a : Act} {r : Option Nat} (hR : R B ι h w) (hF : FrR ι h fr a r) (hG : Glob ι h) {o : Oper} {v : AV} (e : oneV C call round fr h o = .ok (v, h'))
    {n : Nat} {next : Act → World → Prop} {Q : Exit → Act → World → Prop} (hk : ∀ ι' w', Stp B ι ι' h h' w w' → okV ι' h'.n v → next (a.put o.dst (conc ι' v)) w') : o.wpIn (FW r) n P a w next Q := by
  refine ⟨fun _ _ => trivial, ?_⟩
  obtain ⟨x, h1, h2⟩ := E.bd_eq_ok e
  have hx := opE_ok hC hR hF hG h1
  show o.uponIn (FW r) n P a next Q ((o.semAt r a.eval).run P w)
  cases x with
  | val v1 h1' =>
    have h2 : (E.ok (v1, h1') : E (AV × H)) = .ok (v, h') := h2
    injection h2 with h2
    injection h2 with h2 h3
    subst h2 h3
    obtain ⟨ι', w', nx, hrun, hnx, hS, hok⟩ := hx
    rw [hrun]
    rcases hnx with hnx | ⟨hnx, hv⟩
    · subst hnx
      exact hk ι' w' hS hok
    · subst hnx hv
      exact hk ι' w' hS hok
  | enter f args h0 =>
    obtain ⟨rfl, hrun, hok⟩ := hx
    have h2 : call f args h0 = .ok (v, h') := h2
    rw [hrun]
    rcases hcall f args h0 v h' h2 B ι w hR hG hok with ⟨hr1, hr2⟩ | ⟨ι', w', hr1, hS, hok'⟩
    · rw [hr1]
      refine ⟨fun hd => (by cases hd), (hr2 r (n - 1)).mono fun e w' hret => ?_⟩
      obtain ⟨ι', rfl, hS, hok'⟩ := hret
      exact hk ι' w' hS hok'
    · rw [hr1]
      exact hk ι' w' hS hok'
  | round l args h0 =>
    obtain ⟨rfl, hrun, hok, hl⟩ := hx
    have h2 : round l args h0 = .ok (v, h') := h2
    rw [hrun]
    obtain ⟨f, tmps, assign, body, hr1, hr2⟩ := hround l args h0 v h' h2 B ι w hR hG hok hl
    rw [hr1]
    refine ⟨fun hd => (by cases hd), (hr2 r (n - 1)).mono fun e w' hret => ?_⟩
    obtain ⟨ι', rfl, hS, hok'⟩ := hret
    exact hk ι' w' hS hok'
theorem opsV_ok {ops : Array Oper} {r : Option Nat} {n : Nat} {Q : Exit → Act → World → Prop} : ∀ (l : List Oper) (B : Nat) (ι : Inj) (h h' : H) (w : World) (fr fr' : Fr) (a : Act), R B ι h w → FrR ι h fr a r → Glob ι h →
    opsV C call round ops.toList l fr h = .ok (fr', h') → Post B ι h h' w fr' r (Q .normal) → wpListIn (FW r) n P ops Q l a w := by
  intro l
  induction l with
  | nil =>
    intro B ι h h' w fr fr' a hR hF hG e hk
    have e : (E.ok (fr, h) : E (Fr × H)) = .ok (fr', h') := e
    injection e with e
    injection e with e1 e2
    subst e1 e2
    exact hk ι a w (Stp.refl hR) hF
  | cons o l ih =>
    intro B ι h h' w fr fr' a hR hF hG e hk
    have e : ite' (wantedV ops.toList fr o)
      ((oneV C call round fr h o).bd2 fun v h => putF fr o.dst v fun fr => nx (opsV C call round ops.toList l fr h))
      (putF fr o.dst (.tup []) fun fr => nx (opsV C call round ops.toList l fr h)) = .ok (fr', h') := e
    simp only [wpListIn]
    rw [wanted_ok hF]
    cases hw : wantedV ops.toList fr o with
    | true =>
      rw [hw] at e
      simp only [ite'_true] at e
      simp only [if_true]
      obtain ⟨v, h1, g1, g2⟩ := E.bd2_eq_ok e
      refine oneV_ok hC hcall hround hR hF hG g1 fun ι' w' hS hok => ?_
      obtain ⟨fr1, g3, g4⟩ := putF_ok (hF.step hS) hok g2
      refine ih B ι' h1 h' w' fr1 fr' _ hS.rel g4 (Glob.step hS hG) g3 fun ι'' a'' w'' hS' hF' => ?_
      exact hk ι'' a'' w'' (hS.trans hS') hF'
    | false =>
      rw [hw] at e
      simp only [ite'_false] at e
      simp only [Bool.false_eq_true, if_false]
      obtain ⟨fr1, g3, g4⟩ := putF_ok (v := .tup []) hF trivial e
      exact ⟨fun _ _ => trivial, ih B ι h h' w fr1 fr' _ hR g4 hG g3 hk⟩
end

/-! ### Code -/
def CodeOk (P : Program) (code : Code → Fr → H → E (X × Fr × H)) : Prop :=
  ∀ c fr h x fr' h', code c fr h = .ok (x, fr', h') → ∀ B ι w a r, R B ι h w → FrR ι h fr a r → Glob ι h → ∀ n Q, Post B ι h h' w fr' r (Q (exitOf x)) → c.wpIn (FW r) n P Q a w
theorem least (p : Nat → Prop) (h : ∃ n, p n) : ∃ n, p n ∧ ∀ m, p m → n ≤ m := by
  obtain ⟨n, hn⟩ := h
  induction n using Nat.strongRecOn with
  | _ n ih =>
    by_cases hm : ∃ m, m < n ∧ p m
    · obtain ⟨m, h1, h2⟩ := hm
      exact ih m h1 h2
    · exact ⟨n, hn, fun m hp => Nat.le_of_not_lt fun hlt => hm ⟨m, hlt, hp⟩⟩
section
variable {C : Cx} {P : Program} {drawn : Drawn}
theorem loop_ok {K : Nat} (hcode : ∀ j, j < K → CodeOk P (ev C drawn j).code) {b : Code} {fr fr' : Fr} {h h' : H} {x : X} (e : (ev C drawn K).code (.loop b) fr h = .ok (x, fr', h'))
    {B : Nat} {ι : Inj} {w : World} {a : Act} {r : Option Nat} (hR : R B ι h w) (hF : FrR ι h fr a r) (hG : Glob ι h) {n : Nat} {Q : Exit → Act → World → Prop} (hk : Post B ι h h' w fr' r (Q (exitOf x))) :
    (Code.loop b).wpIn (FW r) n P Q a w := by
  let J (m : Nat) (a1 : Act) (w1 : World) : Prop := m ≤ K ∧ ∃ ι1 h1 fr1, Stp B ι ι1 h h1 w w1 ∧ FrR ι1 h1 fr1 a1 r ∧ (ev C drawn m).code (.loop b) fr1 h1 = .ok (x, fr', h')
  let μ (a1 : Act) (w1 : World) : Nat := open Classical in if hq : ∃ m, J m a1 w1 then Classical.choose (least _ hq) else 0
  have hμ : ∀ a1 w1, (∃ m, J m a1 w1) → J (μ a1 w1) a1 w1 ∧ ∀ m, J m a1 w1 → μ a1 w1 ≤ m := by
    intro a1 w1 hq
    have := Classical.choose_spec (least _ hq)
    simp only [μ, dif_pos hq]
    exact this
  refine wpIn_loop (fun a1 w1 => ∃ m, J m a1 w1) μ ⟨K, Nat.le_refl _, ι, h, fr, Stp.refl hR, hF, e⟩ fun a1 w1 hI => ?_
  obtain ⟨⟨hm, ι1, h1, fr1, hS, hF1, he⟩, _⟩ := hμ a1 w1 hI
  generalize hmu : μ a1 w1 = m at *
  cases m with
  | zero => cases he
  | succ m =>
    obtain ⟨x1, q, g1, g2⟩ := E.bd2_eq_ok (show (((ev C drawn m).code b fr1 h1).bd2 fun x q => thenX x q ((ev C drawn m).code (.loop b))) = .ok (x, fr', h') from he)
    obtain ⟨fr2, h2⟩ := q
    refine hcode m (by omega) b fr1 h1 x1 fr2 h2 g1 B ι1 w1 a1 r hS.rel hF1 (Glob.step hS hG) n _ fun ι2 a2 w2 hS2 hF2 => ?_
    cases x1 with
    | nrm =>
      have hJ : J m a2 w2 := ⟨by omega, ι2, h2, fr2, hS.trans hS2, hF2, g2⟩
      refine ⟨⟨m, hJ⟩, ?_⟩
      have := (hμ a2 w2 ⟨m, hJ⟩).2 m hJ
      omega
    | exit id =>
      have g2 : (E.ok (X.exit id, fr2, h2) : E (X × Fr × H)) = .ok (x, fr', h') := g2
      injection g2 with g2
      injection g2 with g2 g3
      injection g3 with g3 g4
      subst g2 g3 g4
      exact hk ι2 a2 w2 (hS.trans hS2) hF2
    | ret =>
      have g2 : (E.ok (X.ret, fr2, h2) : E (X × Fr × H)) = .ok (x, fr', h') := g2
      injection g2 with g2
      injection g2 with g2 g3
      injection g3 with g3 g4
      subst g2 g3 g4
      exact hk ι2 a2 w2 (hS.trans hS2) hF2
end
end Go.Eng
