/- The abstract evaluator, soundness 12: code, calls. -/
import Derived.Test.YtbbojdjgabdjmaaGreatDoorEngCode
import Derived.Scope
namespace Go.Eng
open Go Go.RowKit

theorem wpIn_scope {F : Fence} {n : Nat} {P : Program} {Q : Exit → Act → World → Prop} {a : Act} {w : World} {c : Code} (h : c.wpIn F n P (Exit.noGoto Q) a w) : (Code.scope c).wpIn F n P Q a w := by
  intro b k cs hro hb hr
  have h0 : (lone (b.atR a (.code (.scope c) :: k)) cs w).fenced P F := fenced_calm hb hr rfl
  have s0 : step P (lone (b.atR a (.code (.scope c) :: k)) cs w) = .next (lone (b.atR a (.code c :: .inScope c :: k)) cs w) := step_lone_go (by simp [stepG, stepG.exec, Frame.atR])
  obtain ⟨e, a₁, w₁, hq, harr⟩ := h b (.inScope c :: k) cs hro hb hr
  cases e with
  | normal =>
    have s1 : step P (lone (b.atR a₁ (.inScope c :: k)) cs w₁) = .next (lone (b.atR a₁ k) cs w₁) := step_lone_go (by simp [stepG, stepG.exec, Frame.atR])
    exact ⟨.normal, a₁, w₁, hq, .head h0 s0 (StepsIn.trans harr (.one (fenced_calm hb hr rfl) s1))⟩
  | exit id =>
    have hx : exitTo id (.inScope c :: k) = exitTo id k := by simp [exitTo]
    exact ⟨.exit id, a₁, w₁, hq, fun k' hk => .head h0 s0 (harr.1 k' (by rw [hx]; exact hk)),
      fun hr' hk => let ⟨k₁, h1, h2⟩ := harr.2 hr' (by rw [hx]; exact hk); ⟨k₁, h1, .head h0 s0 h2⟩⟩
  | goto l => exact hq.elim
  | ret => exact ⟨_, a₁, w₁, hq, .of_steps (.one h0 s0) harr⟩
  | panic ch => exact ⟨_, a₁, w₁, hq, .of_steps (.one h0 s0) harr⟩
  | outgrown => exact ⟨_, a₁, w₁, hq, .of_steps (.one h0 s0) harr⟩

def DrawnOk (P : Program) (drawn : Drawn) : Prop :=
  ∀ call round, CallOk P call → RoundOk P round → ∀ ops fr h fr' h', drawn call round ops fr h = .ok (fr', h') → ∀ B ι w a r, R B ι h w → FrR ι h fr a r → Glob ι h →
    ∀ id n Q, Post B ι h h' w fr' r (Q .normal) → (Code.region id ops true).wpIn (FW r) n P Q a w
def RangeOk (C : Cx) (P : Program) (drawn : Drawn) (K : Nat) : Prop :=
  ∀ g ps as body fr h x fr' h', (ev C drawn K).code (.rangeFunc g ps as body) fr h = .ok (x, fr', h') → ∀ B ι w a r, R B ι h w → FrR ι h fr a r → Glob ι h →
    ∀ n Q, Post B ι h h' w fr' r (Q (exitOf x)) → (Code.rangeFunc g ps as body).wpIn (FW r) n P Q a w
section
variable {C : Cx} {P : Program} {drawn : Drawn} (hC : CxOk C P) (hD : DrawnOk P drawn)
include hC hD
theorem code_step {K : Nat} (hcode : ∀ j, j < K → CodeOk P (ev C drawn j).code) (hcall : ∀ j, j < K → CallOk P (ev C drawn j).call) (hround : ∀ j, j < K → RoundOk P (roundV (ev C drawn j).code)) (hrange : RangeOk C P drawn K) :
    CodeOk P (ev C drawn K).code := by
  intro c fr h x fr' h' e B ι w a r hR hF hG n Q hk
  cases K with
  | zero => cases e
  | succ K =>
    have hcK := hcode K (Nat.lt_succ_self K)
    have he : codeEv c C drawn (ev C drawn K) fr h = .ok (x, fr', h') := e
    cases c with
    | skip =>
      have he : (E.ok (X.nrm, fr, h) : E (X × Fr × H)) = .ok (x, fr', h') := he
      injection he with he; injection he with h1 h2; injection h2 with h2 h3
      subst h1 h2 h3
      exact wpIn_skip (hk ι a w (Stp.refl hR) hF)
    | region id ops d =>
      obtain ⟨q, g1, g2⟩ := E.bd_eq_ok (show ((ite' d (drawn (ev C drawn K).call (roundV (ev C drawn K).code) ops fr h) (opsV C (ev C drawn K).call (roundV (ev C drawn K).code) ops.toList ops.toList fr h)).bd fun q => E.ok (X.nrm, q)) = .ok (x, fr', h') from he)
      injection g2 with g2; injection g2 with g2 g3
      subst g2 g3
      cases d with
      | true => exact hD _ _ (hcall K (Nat.lt_succ_self K)) (hround K (Nat.lt_succ_self K)) ops fr h fr' h' g1 B ι w a r hR hF hG id n Q hk
      | false => exact wpIn_region_list (opsV_ok hC (hcall K (Nat.lt_succ_self K)) (hround K (Nat.lt_succ_self K)) ops.toList B ι h h' w fr fr' a hR hF hG g1 hk)
    | seq y z =>
      obtain ⟨x1, q, g1, g2⟩ := E.bd2_eq_ok (show (((ev C drawn K).code y fr h).bd2 fun x q => thenX x q ((ev C drawn K).code z)) = .ok (x, fr', h') from he)
      obtain ⟨fr2, h2⟩ := q
      refine wpIn_seq (hcK y fr h x1 fr2 h2 g1 B ι w a r hR hF hG n _ fun ι2 a2 w2 hS2 hF2 => ?_)
      cases x1 with
      | nrm => exact hcK z fr2 h2 x fr' h' g2 B ι2 w2 a2 r hS2.rel hF2 (Glob.step hS2 hG) n Q fun ι3 a3 w3 hS3 hF3 => hk ι3 a3 w3 (hS2.trans hS3) hF3
      | exit id =>
        have g2 : (E.ok (X.exit id, fr2, h2) : E (X × Fr × H)) = .ok (x, fr', h') := g2
        injection g2 with g2; injection g2 with g2 g3; injection g3 with g3 g4
        subst g2 g3 g4
        exact hk ι2 a2 w2 hS2 hF2
      | ret =>
        have g2 : (E.ok (X.ret, fr2, h2) : E (X × Fr × H)) = .ok (x, fr', h') := g2
        injection g2 with g2; injection g2 with g2 g3; injection g3 with g3 g4
        subst g2 g3 g4
        exact hk ι2 a2 w2 hS2 hF2
    | cond cx y z =>
      obtain ⟨v, g1, g2⟩ := E.bd_eq_ok (show ((evO fr cx).bd fun v => (boolOf v).bd fun t => ite' t ((ev C drawn K).code y fr h) ((ev C drawn K).code z fr h)) = .ok (x, fr', h') from he)
      obtain ⟨t, g3, g4⟩ := E.bd_eq_ok g2
      have hv : v = .bool t := by
        unfold boolOf at g3
        split at g3
        · injection g3 with g3; subst g3; rfl
        · cases g3
      subst hv
      refine wpIn_cond (evO_ok hF hG g1).1 ?_
      cases t with
      | true => exact hcK y fr h x fr' h' g4 B ι w a r hR hF hG n Q hk
      | false => exact hcK z fr h x fr' h' g4 B ι w a r hR hF hG n Q hk
    | block id y =>
      obtain ⟨x1, q, g1, g2⟩ := E.bd2_eq_ok (show (((ev C drawn K).code y fr h).bd2 fun x q => E.ok (leftX id x, q)) = .ok (x, fr', h') from he)
      injection g2 with g2; injection g2 with g2 g3
      subst g2 g3
      refine wpIn_block (hcK y fr h x1 fr' h' g1 B ι w a r hR hF hG n _ fun ι2 a2 w2 hS2 hF2 => ?_)
      have := hk ι2 a2 w2 hS2 hF2
      cases x1 with
      | nrm => exact this
      | ret => exact this
      | exit i =>
        show if i = id then Q .normal a2 w2 else Q (.exit i) a2 w2
        by_cases hi : i = id
        · rw [if_pos hi]
          have h4 : leftX id (.exit i) = .nrm := by show ite' (Nat.beq i id) X.nrm (.exit i) = _; rw [beq_t hi]; rfl
          rw [h4] at this; exact this
        · rw [if_neg hi]
          have h4 : leftX id (.exit i) = .exit i := by show ite' (Nat.beq i id) X.nrm (.exit i) = _; rw [beq_f hi]; rfl
          rw [h4] at this; exact this
    | loop y => exact loop_ok hcode e hR hF hG hk
    | rangeFunc g ps as body => exact hrange g ps as body fr h x fr' h' e B ι w a r hR hF hG n Q hk
    | exit id =>
      have he : (E.ok (X.exit id, fr, h) : E (X × Fr × H)) = .ok (x, fr', h') := he
      injection he with he; injection he with h1 h2; injection h2 with h2 h3
      subst h1 h2 h3
      exact wpIn_exit (hk ι a w (Stp.refl hR) hF)
    | scope y =>
      refine wpIn_scope (hcK y fr h x fr' h' he B ι w a r hR hF hG n _ fun ι2 a2 w2 hS2 hF2 => ?_)
      have := hk ι2 a2 w2 hS2 hF2
      cases x <;> exact this
    | label l =>
      have he : (E.ok (X.nrm, fr, h) : E (X × Fr × H)) = .ok (x, fr', h') := he
      injection he with he; injection he with h1 h2; injection h2 with h2 h3
      subst h1 h2 h3
      exact wpIn_label (hk ι a w (Stp.refl hR) hF)
    | goto l => cases he
    | ret =>
      have he : (E.ok (X.ret, fr, h) : E (X × Fr × H)) = .ok (x, fr', h') := he
      injection he with he; injection he with h1 h2; injection h2 with h2 h3
      subst h1 h2 h3
      exact wpIn_ret (hk ι a w (Stp.refl hR) hF)
    | refuse s => cases he
end
end Go.Eng
