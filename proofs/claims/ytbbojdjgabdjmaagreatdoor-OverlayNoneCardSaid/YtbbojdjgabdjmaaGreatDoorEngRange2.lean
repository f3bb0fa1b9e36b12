/- The abstract evaluator, soundness: the statement that ranges over a function. -/
import Derived.Test.YtbbojdjgabdjmaaGreatDoorEngRange
import Derived.RangeFuncIn
namespace Go.Eng
open Go Go.RowKit

theorem ev_body {C : Cx} {drawn : Drawn} {K : Nat} {f : FuncId} {args : List AV} {h : H} {q : AV × H} (hn : noGamB C f = true) (e : (ev C drawn K).call f args h = .ok q) : ∃ fn, C.fn.get f = some fn ∧ fn.body.isSome = true := by
  cases K with
  | zero => cases e
  | succ K =>
    have e : callEv C (ev C drawn K).code f args h = .ok q := e
    unfold callEv at e
    unfold noGamB at hn
    split at e
    · rename_i g hg
      rw [hg] at hn
      cases hn
    · obtain ⟨fn, h1, e1⟩ := E.bd_eq_ok e
      refine ⟨fn, ofOpt_ok h1, ?_⟩
      split at e1
      · cases e1
      · rename_i c hc
        rw [hc]; rfl
/-- The record is laid: the loop's number, its mark, and what is behind. -/
structure Entered (P : Program) (B : Nat) (ι ι2 : Inj) (h h2 : H) (w : World) (fr : Fr) (a : Act) (r : Option Nat) (ps : Array Tmp) (as body : Code) (fn : FuncId) (l : Nat) (q' : List Nat) (mark : List Deferred) (w2 : World) : Prop where
  run : (Instr.enterLoop fn a.tmps ps as body r).run P w = .ok ((ι2 l).blk, mark) w2
  step : Stp B ι ι2 h h2 w w2
  lt : l < h2.n
  frm : FrR ι2 h2 ⟨fr.fn, fr.n, fr.t, fr.rnd, q' ++ fr.defs⟩ { a with defers := mark ++ a.defers } r
theorem range_ok {C : Cx} {P : Program} {drawn : Drawn} (hC : CxOk C P) : ∀ K, (∀ j, j < K → CallOk P (ev C drawn j).call) → RangeOk C P drawn K := by
  intro K hcall g ps as body fr h x fr' h' e B ι w a r hR hF hG n Q hk
  cases K with
  | zero => cases e
  | succ K =>
    have e : ((match fr.rnd with
      | some l => withLoop h l fun _ _ _ _ _ _ _ _ d => .ok (d, [], h)
      | none => newO h .dfr fun b h => .ok (b, [b], h)) : E (Nat × List Nat × H)).bd3 (fun q q' h =>
        newO h (.loop .ready none fr.fn fr.n fr.t ps.toList as body q) fun l h => (evO fr g).bd fun g => (callV g [.func (.yield l) [] []] h).bd fun x => (match x with
          | .enter f args h => chk (noGamB C f) 259 <| ((ev C drawn K).call f args h).bd2 fun _ h => withLoop h l fun st pend fn n t ps as body d => (match st with
            | .busy => .err [250]
            | _ => setO h l (.loop .exhausted pend fn n t ps as body d) fun h => (match pend with
              | none => .ok (.nrm, ⟨fr.fn, fr.n, fr.t, fr.rnd, q' ++ fr.defs⟩, h)
              | some .ret => .ok (.ret, ⟨fr.fn, fr.n, fr.t, fr.rnd, q' ++ fr.defs⟩, h)
              | some (.exit i) => .ok (.exit i, ⟨fr.fn, fr.n, fr.t, fr.rnd, q' ++ fr.defs⟩, h)
              | _ => .err [251]))
          | _ => .err [252])) = .ok (x, fr', h') := e
    obtain ⟨q, q', h1, e1, e2⟩ := E.bd3_eq_ok e
    obtain ⟨h2, e3, k2, k3, k4, k5⟩ := newO_ok e2
    refine wpIn_rangeFunc fun fn _ => ?_
    have hent : ∃ ι2 mark w2, Entered P B ι ι2 h h2 w fr a r ps as body fn h1.n q' mark w2 := by
      cases hrnd : fr.rnd with
      | none =>
        rw [hrnd] at e1
        obtain ⟨hh, m1, m2, m3, m4, m5⟩ := newO_ok (show newO h .dfr (fun b h => E.ok (b, [b], h)) = .ok (q, q', h1) from e1)
        injection m1 with m1
        injection m1 with m1 m1'
        injection m1' with m1' m1''
        subst m1 m1' m1''
        have hr0 : r = none := by rw [hF.rnd, hrnd]; rfl
        subst hr0
        let w1 := w.alloc (.deferred (some []))
        have hS1 : Stp B ι (setI ι h.n ⟨w.heap.size, 0, 0⟩) h hh w w1 := new_obj hR m2 m3 m4 m5 (alloc_new w _)
        let ι1 := setI ι h.n ⟨w.heap.size, 0, 0⟩
        have hq : (ι1 h.n).blk = w.heap.size := by show (setI ι h.n ⟨w.heap.size, 0, 0⟩ h.n).blk = _; rw [setI_same]
        have hF1 := hF.step hS1
        let rec1 : Loop := { state := .ready, pending := none, fn := fn, tmps := a.tmps, params := ps, assign := as, body := body, defers := w.heap.size }
        have hS2 : Stp B ι1 (setI ι1 hh.n ⟨w1.heap.size, 0, 0⟩) hh h2 w1 (w1.alloc (.loop rec1)) := by
          refine new_obj hS1.rel k2 k3 k4 k5 ⟨a.tmps, fn, ?_, ?_, by omega⟩
          · rw [show (setI ι1 hh.n ⟨w1.heap.size, 0, 0⟩ h.n).blk = w.heap.size by rw [setI_ne (by omega)]; exact hq]
            have := alloc_new w1 (.loop rec1)
            simpa [rec1] using this
          · exact hF1.tm.ext (by omega) fun b hb => setI_ne (by omega)
        have hS := hS1.trans hS2
        have hsz : w1.heap.size = w.heap.size + 1 := by show (w.heap.push _).size = _; rw [Array.size_push]
        have hFr := hF.step hS
        refine ⟨_, [{ target := .collected w.heap.size, args := #[] }], w1.alloc (.loop rec1), ⟨?_, hS, by omega, ?_⟩⟩
        · rw [run_enterLoop_outer, setI_same]
          show Result.ok (w.heap.size + 1, _) _ = Result.ok (w1.heap.size, _) _
          rw [hsz]
        · refine ⟨hFr.tm, ?_, fun b hb => ?_, hFr.rnd, hFr.rb⟩
          · show _ :: a.defers = _
            rw [hFr.df]
            show _ = (h.n :: fr.defs).map _
            rw [List.map_cons, show (setI ι1 hh.n ⟨w1.heap.size, 0, 0⟩ h.n).blk = w.heap.size by rw [setI_ne (by omega)]; exact hq]
          · rcases List.mem_cons.1 (show b ∈ h.n :: fr.defs from hb) with rfl | hb
            · omega
            · exact hFr.db b hb
      | some l0 =>
        rw [hrnd] at e1
        obtain ⟨st, pend, fn2, n2, t2, ps2, as2, body2, d, ts, fn', g1, g2, g3, g4, g5, g6⟩ := withLoop_ok hR (show withLoop h l0 (fun _ _ _ _ _ _ _ _ d => E.ok (d, [], h)) = .ok (q, q', h1) from e1)
        injection g3 with g3
        injection g3 with g3 g3'
        injection g3' with g3' g3''
        subst g3 g3' g3''
        have hr0 : r = some (ι l0).blk := by rw [hF.rnd, hrnd]; rfl
        subst hr0
        let rec1 : Loop := { state := .ready, pending := none, fn := fn, tmps := a.tmps, params := ps, assign := as, body := body, defers := (ι d).blk }
        have hS : Stp B ι (setI ι h.n ⟨w.heap.size, 0, 0⟩) h h2 w (w.alloc (.loop rec1)) := by
          refine new_obj hR k2 k3 k4 k5 ⟨a.tmps, fn, ?_, ?_, by omega⟩
          · rw [show (setI ι h.n ⟨w.heap.size, 0, 0⟩ d).blk = (ι d).blk by rw [setI_ne (by omega)]]
            have := alloc_new w (.loop rec1)
            simpa [rec1] using this
          · exact hF.tm.ext (by omega) fun b hb => setI_ne (by omega)
        have hFr := hF.step hS
        refine ⟨_, [], w.alloc (.loop rec1), ⟨?_, hS, by omega, ⟨hFr.tm, hFr.df, hFr.db, hFr.rnd, hFr.rb⟩⟩⟩
        rw [setI_same]
        unfold Instr.enterLoop
        simp only [Sem.run_bind, run_getLoop g4, Result.andThen_ok, Sem.run_pure]
        rfl
    obtain ⟨ι2, mark, w2, hE⟩ := hent
    obtain ⟨gv, e4, e5⟩ := E.bd_eq_ok e3
    obtain ⟨y, e6, e7⟩ := E.bd_eq_ok e5
    have hF2 := hF.step hE.step
    have hG2 := Glob.step hE.step hG
    obtain ⟨b1, b2⟩ := evO_ok hF2 hG2 e4
    cases y with
    | val v hv => cases e7
    | round l args hv => cases e7
    | enter f args h3 =>
      obtain ⟨e8, e9⟩ := chk_ok e7
      obtain ⟨v, h4, e10, e11⟩ := E.bd2_eq_ok e9
      unfold callV at e6
      split at e6
      case h_2 => cases e6
      case h_3 => cases e6
      rename_i f0 first cap
      injection e6 with e6
      injection e6 with e6 e6' e6''
      subst e6 e6' e6''
      have hokA : okL ι2 h2.n (first ++ [.func (.yield h1.n) [] []] ++ cap) := okL_append.2 ⟨okL_append.2 ⟨b2.2.1, ⟨hE.lt, trivial, trivial⟩, trivial⟩, b2.2.2⟩
      have hcr := hcall K (Nat.lt_succ_self K) f0 _ h2 v h4 e10 B ι2 w2 hE.step.rel hG2 hokA
      obtain ⟨fnn, hb1, hb2⟩ := ev_body e8 e10
      rcases hcr with ⟨hr1, hr2⟩ | ⟨_, _, hr1, _⟩
      case inr => rw [hC.call f0 fnn hb1 hb2] at hr1; cases hr1
      refine ⟨(ι2 h1.n).blk, mark, w2, { target := .fn (.func f0) (concL ι2 cap).toArray, args := (concL ι2 first).toArray ++ #[.func (.yield (ι2 h1.n).blk) #[] #[]] }, w2, f0, (concL ι2 (first ++ [.func (.yield h1.n) [] []] ++ cap)).toArray, w2, hE.run, ?_, fun _ _ => trivial, ?_, (fun hd => by cases hd), ?_⟩
      · simp only [resolve, b1, conc, concFn, Deferred.ofValue, Sem.run_pure]
        simp [Act.eval]
      · have harr : (concL ι2 first).toArray ++ #[Value.func (.yield (ι2 h1.n).blk) #[] #[]] ++ (concL ι2 cap).toArray = (concL ι2 (first ++ [.func (.yield h1.n) [] []] ++ cap)).toArray := by
          simp [concL_append, concL, conc, concFn]
        simp only [invoke]
        rw [harr]
        exact hr1
      · refine (hr2 r (n - 1)).mono fun e w3 hret => ?_
        obtain ⟨ι3, rfl, hS3, _⟩ := hret
        obtain ⟨st, pend, fn4, n4, t4, ps4, as4, body4, d4, ts4, fn4', c1, c2, c3, c4, c5, c6⟩ := withLoop_ok hS3.rel e11
        have hS03 := hE.step.trans hS3
        have hl3 : (ι3 h1.n).blk = (ι2 h1.n).blk := by rw [hS3.ext' h1.n hE.lt]
        have hst : st ≠ .busy := fun hs => by subst hs; cases c3
        have c3' : setO h4 h1.n (.loop .exhausted pend fn4 n4 t4 ps4 as4 body4 d4) (fun h => (match pend with
              | none => E.ok (X.nrm, (⟨fr.fn, fr.n, fr.t, fr.rnd, q' ++ fr.defs⟩ : Fr), h)
              | some .ret => .ok (.ret, ⟨fr.fn, fr.n, fr.t, fr.rnd, q' ++ fr.defs⟩, h)
              | some (.exit i) => .ok (.exit i, ⟨fr.fn, fr.n, fr.t, fr.rnd, q' ++ fr.defs⟩, h)
              | _ => .err [251])) = .ok (x, fr', h') := by
          cases st with
          | busy => exact absurd rfl hst
          | ready => exact c3
          | done => exact c3
          | exhausted => exact c3
        obtain ⟨h5, p1, p2, p3, p4, p5⟩ := setO_ok hS3.rel.n c3'
        have hS4 := loop_put (r' := { state := .exhausted, pending := pend, fn := fn4', tmps := ts4, params := ps4.toArray, assign := as4, body := body4, defers := (ι3 d4).blk }) hS3.rel c1 c2 p3 p4 p5 fun w' hw' => ⟨ts4, fn4', hw', c5, c6⟩
        have hrun := run_endLoop (P := P) c4 hst
        rw [hl3] at hrun
        have hS04 := hS03.trans hS4
        have hF4 : FrR ι3 h5 ⟨fr.fn, fr.n, fr.t, fr.rnd, q' ++ fr.defs⟩ { a with defers := mark ++ a.defers } r := (hE.frm.step hS3).step hS4
        rw [hl3] at hS04
        refine ⟨pend, _, hrun, ?_⟩
        cases pend with
        | none =>
          injection p1 with p1
          injection p1 with p1 p1'
          injection p1' with p1' p1''
          subst p1 p1' p1''
          exact hk ι3 _ _ hS04 hF4
        | some c =>
          cases c with
          | ret =>
            injection p1 with p1
            injection p1 with p1 p1'
            injection p1' with p1' p1''
            subst p1 p1' p1''
            exact wpIn_ret (hk ι3 _ _ hS04 hF4)
          | exit i =>
            injection p1 with p1
            injection p1 with p1 p1'
            injection p1' with p1' p1''
            subst p1 p1' p1''
            exact wpIn_exit (hk ι3 _ _ hS04 hF4)
          | _ => cases p1
end Go.Eng
