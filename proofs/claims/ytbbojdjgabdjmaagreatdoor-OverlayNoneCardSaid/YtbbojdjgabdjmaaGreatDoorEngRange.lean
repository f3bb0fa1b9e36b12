/- The abstract evaluator, soundness 14: ranges over functions. -/
import Derived.Test.YtbbojdjgabdjmaaGreatDoorEngCall
namespace Go.Eng
open Go Go.RowKit

theorem withLoop_ok {B : Nat} {ι : Inj} {h : H} {w : World} (hR : R B ι h w) {β : Type} {l : Nat} {f : LoopState → Option Code → FuncId → Nat → T3 AV → List Nat → Code → Code → Nat → E β} {b : β} (e : withLoop h l f = .ok b) :
    ∃ st pend fn n t ps as body d ts fn', l < h.n ∧ h.at l = .loop st pend fn n t ps as body d ∧ f st pend fn n t ps as body d = .ok b ∧
      w.heap[(ι l).blk]? = some (.loop { state := st, pending := pend, fn := fn', tmps := ts, params := ps.toArray, assign := as, body := body, defers := (ι d).blk }) ∧ Tmps ι h.n n t ts ∧ d < h.n := by
  obtain ⟨o, h1, e1⟩ := E.bd_eq_ok e
  obtain ⟨h2, h3⟩ := getO_ok h1
  split at e1
  · have ho := hR.obj l h2
    rw [h3] at ho
    obtain ⟨ts, fn', g1, g2, g3⟩ := ho
    exact ⟨_, _, _, _, _, _, _, _, _, ts, fn', h2, h3, e1, g1, g2, g3⟩
  · cases e1

theorem setTs_ok {γ : Type} {ι : Inj} {m n : Nat} : ∀ (ps : List Nat) (vs : List AV) (t : T3 AV) (ts : Array Value) (k : T3 AV → E γ) (q : γ), Tmps ι m n t ts → okL ι m vs → setTs n ps vs t k = .ok q →
    ps.length = vs.length ∧ ∃ t', k t' = .ok q ∧ Tmps ι m n t' ((ps.zip (concL ι vs)).foldl (fun ts (p : Nat × Value) => ts.setIfInBounds p.1 p.2) ts) := by
  intro ps
  induction ps with
  | nil =>
    intro vs t ts k q hT hok e
    cases vs with
    | nil => exact ⟨rfl, t, e, hT⟩
    | cons v vs => cases e
  | cons p ps ih =>
    intro vs t ts k q hT hok e
    cases vs with
    | nil => cases e
    | cons v vs =>
      obtain ⟨h1, h2⟩ := chk_ok (show chk (Nat.blt p n) 233 (T3.set t p v fun t => nx (setTs n ps vs t k)) = .ok q from e)
      have hp := blt_eq h1
      have hn := hT.1
      obtain ⟨t1, g1, g2⟩ := T3.set_eq (i := p) (by omega) t v fun t => nx (setTs n ps vs t k)
      rw [g1] at h2
      have hT1 : Tmps ι m n t1 (ts.setIfInBounds p (conc ι v)) := by
        refine ⟨hn, by rw [Array.size_setIfInBounds]; exact hT.2.1, fun i hi => ?_⟩
        have hsz := hT.2.1
        rw [g2 i (by omega), Array.getElem?_setIfInBounds]
        by_cases hpi : i = p
        · subst hpi
          rw [if_pos rfl, if_pos rfl, if_pos (by omega)]
          exact ⟨rfl, hok.1⟩
        · rw [if_neg (Ne.symm hpi), if_neg hpi]
          exact hT.2.2 i hi
      obtain ⟨k1, t', k2, k3⟩ := ih vs t1 _ k q hT1 hok.2 h2
      exact ⟨by simp [k1], t', k2, k3⟩

theorem loop_put {B : Nat} {ι : Inj} {h hh : H} {w : World} (hR : R B ι h w) {l : Nat} {o : AObj} {r' : Loop} {st : LoopState} {pend : Option Code} {fn : FuncId} {n : Nat} {t : T3 AV} {ps : List Nat} {as body : Code} {d : Nat}
    (hl : l < h.n) (hat : h.at l = .loop st pend fn n t ps as body d) (m3 : hh.n = h.n) (m4 : hh.at l = o) (m5 : ∀ b', b' < h.n → b' ≠ l → hh.at b' = h.at b')
    (ho : ∀ w' : World, w'.heap[(ι l).blk]? = some (.loop r') → ObjR ι h.n (ι l) w' o) : Stp B ι ι h hh w (w.putObj (ι l).blk (.loop r')) :=
  Stp.of_put (.loop r') hR hl m3 m5 (by rw [hat]; rfl) (by rw [m4]; exact ho _ (put_at (hR.lt l hl (by rw [hat]; rfl))))

theorem roundV_ok {P : Program} {code : Code → Fr → H → E (X × Fr × H)} (hcode : CodeOk P code) : RoundOk P (roundV code) := by
  intro l args h v h' e B ι w hR hG hok hl
  obtain ⟨st, pend, fn, n, t, ps, as, body, d, ts, fn', g1, g2, g3, g4, g5, g6⟩ := withLoop_ok hR e
  obtain ⟨k1, t', k2, k3⟩ := setTs_ok ps args t ts _ _ g5 hok g3
  obtain ⟨x, fr1, h1, e1, e2⟩ := E.bd3_eq_ok k2
  refine ⟨fn', _, as, body, run_yield g4 (by simp [k1]), fun r m => roundIn_of_wpIn trivial ?_⟩
  have hF0 : FrR ι h ⟨fn, n, t', some l, []⟩ { tmps := (ps.toArray.zip (concL ι args).toArray).foldl (fun tmps (p : Nat × Value) => tmps.setIfInBounds p.1 p.2) ts, defers := [] } (some (ι l).blk) :=
    ⟨by simpa using k3, rfl, fun b hb => (by cases hb), rfl, fun l' hl' => (by injection hl' with hl'; omega)⟩
  refine hcode as _ h x fr1 h1 e1 B ι w _ _ hR hF0 hG m _ fun ι1 a1 w1 hS1 hF1 => ?_
  cases x with
  | exit id => cases e2
  | ret => cases e2
  | nrm =>
    obtain ⟨st2, pend2, fn2, n2, t2, ps2, as2, body2, d2, ts2, fn2', b1, b2, b3, b4, b5, b6⟩ := withLoop_ok hS1.rel e2
    cases st2 <;> first | (cases b3; done) | skip
    obtain ⟨hh, m1, m2, m3, m4, m5⟩ := setO_ok hS1.rel.n b3
    obtain ⟨x3, fr3, h3, e3, e4⟩ := E.bd3_eq_ok m1
    have hlι : (ι1 l).blk = (ι l).blk := by rw [hS1.ext' l hl]
    have hS2 := loop_put (r' := { state := .busy, pending := pend2, fn := fn2', tmps := ts2, params := ps2.toArray, assign := as2, body := body2, defers := (ι1 d2).blk }) hS1.rel b1 b2 m3 m4 m5 fun w' hw' => ⟨ts2, fn2', hw', b5, b6⟩
    rw [← hlι]
    refine ⟨_, run_beginRound b4 rfl, ?_⟩
    have hF2 := hF1.step hS2
    have hS12 := hS1.trans hS2
    have hr : (FW r).inRound (ι1 l).blk = FW (some (ι l).blk) := by rw [hlι]; rfl
    rw [hr]
    refine hcode body _ hh x3 fr3 h3 e3 B ι1 _ _ _ hS2.rel hF2 (Glob.step hS12 hG) m _ fun ι3 a3 w3 hS3 hF3 => ?_
    have hS13 := hS12.trans hS3
    have hlι3 : (ι3 l).blk = (ι1 l).blk := by rw [hS13.ext' l hl, hlι]
    split at e4
    case h_2 => cases e4
    obtain ⟨st4, pend4, fn4, n4, t4, ps4, as4, body4, d4, ts4, fn4', c1, c2, c3, c4, c5, c6⟩ := withLoop_ok hS3.rel e4
    have hret : ∀ (jump : Option Code) (stn : LoopState) (b : Bool), stn = (if jump.isNone then .ready else .done) → b = jump.isNone →
        setO h3 l (.loop stn jump fn4 n4 t4 ps4 as4 body4 d4) (fun h => E.ok (AV.bool b, h)) = .ok (v, h') →
        ∃ v' w', (Instr.endRound (ι l).blk jump).run P w3 = .ok v' w' ∧ Ret B ι h h' w v (.returned v') w' := by
      intro jump stn b hst hb e5
      obtain ⟨h5, p1, p2, p3, p4, p5⟩ := setO_ok hS3.rel.n e5
      injection p1 with p1
      injection p1 with p1 p1'
      subst p1 p1' hst hb
      have hS4 := loop_put (r' := { state := if jump.isNone then .ready else .done, pending := jump, fn := fn4', tmps := ts4, params := ps4.toArray, assign := as4, body := body4, defers := (ι3 d4).blk }) hS3.rel c1 c2 p3 p4 p5 fun w' hw' => ⟨ts4, fn4', hw', c5, c6⟩
      have hrun := run_endRound (P := P) jump c4
      rw [hlι3, hlι] at hrun
      rw [hlι3, hlι] at hS4
      exact ⟨_, _, hrun, ι3, rfl, hS13.trans hS4, trivial⟩
    rw [hlι]
    cases x3 with
    | nrm => exact hret none _ true rfl rfl c3
    | ret => exact hret (some .ret) _ false rfl rfl c3
    | exit id => exact hret (some (.exit id)) _ false rfl rfl c3
end Go.Eng
