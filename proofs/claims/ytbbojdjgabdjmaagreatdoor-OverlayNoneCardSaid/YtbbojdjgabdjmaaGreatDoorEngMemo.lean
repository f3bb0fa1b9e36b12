/- The abstract evaluator: calls of a function from bytes to bytes that were worked out beforehand. -/
import Derived.Test.YtbbojdjgabdjmaaGreatDoorEngTop
namespace Go.Eng
open Go Go.RowKit

noncomputable def byteV (n : Nat) : AV := .int .u8 (Int.ofNat n)
noncomputable def bytesE (cs : List AV) : E (List Nat) := mapE (fun c => match c with | .int .u8 (.ofNat n) => fN n .ok | _ => .err [290]) cs
theorem bytesE_ok {cs : List AV} {l : List Nat} (e : bytesE cs = .ok l) : cs = l.map byteV := by
  induction cs generalizing l with
  | nil => injection e with e; subst e; rfl
  | cons c cs ih =>
    unfold bytesE at e
    rw [mapE_cons] at e
    obtain ⟨n, h1, h2⟩ := E.bd_eq_ok e
    obtain ⟨ns, h3, h4⟩ := E.bd_eq_ok h2
    injection h4 with h4
    subst h4
    rw [ih h3]
    split at h1
    · rw [fN_eq] at h1
      injection h1 with h1
      subst h1
      rfl
    · cases h1
/-- What came back: 32 bytes in a block of their own. -/
noncomputable def out32 (e : TypeId) (v : AV) (h : H) : E (List Nat) := match v with
  | .sl b off _ len (.kn c) => chk (Nat.beq off 0 && Nat.beq len 32 && Nat.beq c 32) 291 <| (getO h b).bd fun o => match o with
    | .cells cs e' op pu ro => chk (!op && pu && !ro && Nat.beq e' e && Nat.beq cs.length 32) 292 (bytesE cs)
    | _ => .err [293]
  | _ => .err [294]
noncomputable def memoV (C : Cx) (f : FuncId) (e : TypeId) (K : Nat) (s : List Nat) : E (List Nat) :=
  newO h0 (.cells (s.map byteV) e true false true) fun b h => ((ev C (drawnV C) K).call f [.sl b 0 0 s.length (.op 1)] h).bd2 (out32 e)
noncomputable def findT (t : List (List Nat × List Nat)) (s : List Nat) : E (List Nat) :=
  List.rec (motive := fun _ => E (List Nat)) (.err (295 :: s)) (fun p _ ih => Prod.rec (motive := fun _ => E (List Nat)) (fun a d => ite' (listEq Nat.beq a s) (.ok d) ih) p) t
theorem findT_ok {t : List (List Nat × List Nat)} {s d : List Nat} (e : findT t s = .ok d) : (s, d) ∈ t := by
  induction t with
  | nil => cases e
  | cons p t ih =>
    obtain ⟨a, d'⟩ := p
    have e : ite' (listEq Nat.beq a s) (.ok d') (findT t s) = .ok d := e
    cases hb : listEq Nat.beq a s with
    | true =>
      rw [hb, ite'_true] at e
      injection e with e
      rw [listEq_ok (fun a b h => beq_eq h) _ _ hb, e]
      exact List.mem_cons_self ..
    | false => rw [hb, ite'_false] at e; exact List.mem_cons_of_mem _ (ih e)
noncomputable def memoG (e : TypeId) (t : List (List Nat × List Nat)) (args : List AV) (h : H) : E (AV × H) := match args with
  | [.sl b off z len (.op s)] => chk (Nat.beq off 0 && Nat.beq z 0 && Nat.beq s 1) 296 <| (getO h b).bd fun o => match o with
    | .cells cs e' _ _ _ => chk (Nat.beq e' e && Nat.beq cs.length len) 297 <| (bytesE cs).bd fun s => (findT t s).bd fun d => newO h (.cells (d.map byteV) e false true false) fun b h => .ok (.sl b 0 0 32 (.kn 32), h)
    | _ => .err [298]
  | _ => .err [299]

theorem conc_bytes (ι : Inj) (s : List Nat) {i : Nat} {v : AV} (h : (s.map byteV)[i]? = some v) (ι' : Inj) : conc ι v = conc ι' v := by
  rw [List.getElem?_map] at h
  obtain ⟨n, _, rfl⟩ := Option.map_eq_some_iff.1 h
  rfl
theorem okL_bytes (ι : Inj) (n : Nat) (s : List Nat) : okL ι n (s.map byteV) := by
  rw [okL_iff]
  intro v hv
  obtain ⟨k, _, rfl⟩ := List.mem_map.1 hv
  trivial
variable {C0 : Cx} {P : Program}
theorem memo_ok (hC : CxOk C0 P) (hg : GamOk C0 P) {f : FuncId} {fn : Func} (hf : C0.fn.get f = some fn) (hb : fn.body.isSome = true) {e : TypeId} {K : Nat} {t : List (List Nat × List Nat)}
    (ht : ∀ p ∈ t, memoV C0 f e K p.1 = .ok p.2) : ∀ args h v h', memoG e t args h = .ok (v, h') → ∀ B ι w, R B ι h w → Glob ι h → okL ι h.n args → CallRes P B ι h h' w f args v := by
  intro args h v h' e0 B ι w hR hG hok
  unfold memoG at e0
  split at e0
  case h_2 => cases e0
  rename_i b off z len s
  obtain ⟨c1, e1⟩ := chk_ok e0
  simp only [Bool.and_eq_true] at c1
  obtain ⟨⟨c2, c3⟩, c4⟩ := c1
  have c2 := beq_eq c2
  have c3 := beq_eq c3
  have c4 := beq_eq c4
  subst c2 c3 c4
  obtain ⟨o, g1, e2⟩ := E.bd_eq_ok e1
  obtain ⟨g2, g3⟩ := getO_ok g1
  split at e2
  case h_2 => cases e2
  rename_i cs e' op pu ro
  obtain ⟨c5, e3⟩ := chk_ok e2
  rw [Bool.and_eq_true] at c5
  have c6 := (beq_eq c5.1).symm
  have c7 := beq_eq c5.2
  subst c6 c7
  obtain ⟨sb, g4, e4⟩ := E.bd_eq_ok e3
  obtain ⟨d, g5, e5⟩ := E.bd_eq_ok e4
  have g4 := bytesE_ok g4
  subst g4
  obtain ⟨hh, k1, k2, k3, k4, k5⟩ := newO_ok e5
  injection k1 with k1
  injection k1 with k1 k1'
  subst k1 k1'
  -- the little heap
  have hm := ht _ (findT_ok g5)
  obtain ⟨h1, m1, m2, m3, m4, m5⟩ := newO_ok hm
  obtain ⟨v1, h1', m6, m7⟩ := E.bd2_eq_ok m1
  have hn0 : (h0 : H).n = 4096 := rfl
  have ho := hR.obj b g2
  rw [g3] at ho
  obtain ⟨arr, lo, hi, q1, q2, q3, q4, q5, q6, q7, q8, q9⟩ := ho
  have hlt : (ι b).blk < w.heap.size := hR.lt b g2 (by rw [g3]; rfl)
  let ι1 : Inj := setI ι0 4096 (ι b)
  have hat : ∀ b', b' < h1.n → h1.at b' = .dead ∨ b' = 4096 := fun b' hb' => by
    by_cases hx : b' = 4096
    · exact .inr hx
    · have : b' < 4096 := by rw [m3, hn0] at hb'; omega
      exact .inl (by rw [m5 b' (by rw [hn0]; exact this)]; exact h0_at this)
  have hat1 : h1.at 4096 = .cells (sb.map byteV) e true false true := m4
  have R1 : R w.heap.size ι1 h1 w := {
    n := by rw [m3, hn0]; decide
    obj := fun b' hb' => by
      rcases hat b' hb' with hx | rfl
      · rw [hx]; trivial
      · rw [hat1]
        have hl : ι1 4096 = ι b := setI_same _ _ _
        rw [hl]
        exact ⟨arr, lo, hi, q1, q2, q3, (fun hc => by cases hc), (fun i v hv => by rw [← conc_bytes ι sb hv ι1]; exact q5 i v hv), okL_bytes _ _ _, (fun hc => by cases hc), (fun hc => by cases hc), (fun hc => by cases hc)⟩
    inj := fun b1 b2 hb1 hb2 l1 l2 _ => by
      rcases hat b1 hb1 with hx | rfl
      · rw [hx] at l1; cases l1
      · rcases hat b2 hb2 with hx | rfl
        · rw [hx] at l2; cases l2
        · rfl
    own := fun k ⟨b', hb', hw', _⟩ => by
      rcases hat b' hb' with hx | rfl
      · rw [hx] at hw'; cases hw'
      · rw [hat1] at hw'; cases hw'
    sz := Nat.le_refl _
    lt := fun b' hb' hl => by
      rcases hat b' hb' with hx | rfl
      · rw [hx] at hl; cases hl
      · rw [show ι1 4096 = ι b from setI_same _ _ _]; exact hlt }
  have G1 : Glob ι1 h1 := ⟨by rw [m3, hn0]; decide, fun g hg => by rw [show ι1 g = ι0 g from setI_ne (by omega)]; exact ⟨rfl, rfl⟩⟩
  have hokb : b < h.n ∧ okCap (ι b) 0 (sb.map byteV).length (.op 1) := hok.1
  have hlen : (sb.map byteV).length = sb.length := List.length_map _
  have hargs : okL ι1 h1.n [.sl h0.n 0 0 sb.length (.op 1)] := by
    refine ⟨⟨by rw [m3]; omega, ?_⟩, trivial⟩
    rw [show ι1 h0.n = ι b from setI_same _ _ _]
    rw [← hlen]; exact hokb.2
  have hconc : concL ι1 [.sl h0.n 0 0 sb.length (.op 1)] = concL ι [.sl b 0 0 (sb.map byteV).length (.op 1)] := by
    simp only [concL, conc]
    rw [show ι1 h0.n = ι b from setI_same _ _ _, hlen]
  obtain ⟨_, hcall⟩ := ev_ok hC (drawnV_ok hC hC.mixed) hg (range_ok hC) K
  have hcr := hcall f _ h1 v1 h1' m6 w.heap.size ι1 w R1 G1 hargs
  unfold CallRes at hcr ⊢
  rw [hconc] at hcr
  -- what came back
  unfold out32 at m7
  split at m7
  case h_2 => cases m7
  rename_i b' off' z' len' c'
  obtain ⟨c8, m8⟩ := chk_ok m7
  simp only [Bool.and_eq_true] at c8
  obtain ⟨⟨c9, c10⟩, c11⟩ := c8
  have c9 := beq_eq c9
  have c10 := beq_eq c10
  have c11 := beq_eq c11
  subst c9 c10 c11
  obtain ⟨o', m9, m10⟩ := E.bd_eq_ok m8
  obtain ⟨m11, m12⟩ := getO_ok m9
  split at m10
  case h_2 => cases m10
  rename_i cs' e'' op' pu' ro'
  obtain ⟨c12, m13⟩ := chk_ok m10
  simp only [Bool.and_eq_true, Bool.not_eq_true'] at c12
  obtain ⟨⟨⟨⟨c13, c14⟩, c15⟩, c16⟩, c17⟩ := c12
  have c16 := beq_eq c16
  have c17 := beq_eq c17
  subst c13 c14 c15 c16
  have m13 := bytesE_ok m13
  subst m13
  have key : ∀ e w', Ret w.heap.size ι1 h1 h1' w (.sl b' 0 z' 32 (.kn 32)) e w' → Ret B ι h hh w (.sl h.n 0 0 32 (.kn 32)) e w' := by
    rintro e1 w' ⟨ι', rfl, hS, _⟩
    have hbel : Below w.heap.size w w' := hS.below R1
    have hob := hS.rel.obj b' m11
    rw [m12] at hob
    have hge : w.heap.size ≤ (ι' b').blk := hS.rel.own _ ⟨b', m11, by rw [m12]; rfl, rfl⟩
    have hlt' : (ι' b').blk < w'.heap.size := hS.rel.lt b' m11 (by rw [m12]; rfl)
    have hblk : ∀ k, k < w.heap.size → w'.heap[k]? = w.heap[k]? := fun k hk => hbel.block k hk
    refine ⟨setI ι h.n (ι' b'), ?_, ?_, ⟨by show h.n < hh.n; omega, Nat.le_refl _⟩⟩
    · simp only [conc, setI_same, concSl]
    · exact {
        le := by omega
        ext := fun b hb => setI_ne (by omega)
        rel := {
          n := by omega
          obj := fun b2 hb2 => by
            by_cases hx : b2 = h.n
            · subst hx
              rw [setI_same, k4]
              obtain ⟨arr, lo, hi, r1, r2, r3, r4, r5, r6, r7, r8, r9⟩ := hob
              exact ⟨arr, lo, hi, r1, r2, r3, r4, (fun i v hv => by rw [← conc_bytes ι' d hv]; exact r5 i v hv), okL_bytes _ _ _, r7, r8, r9⟩
            · rw [k5 b2 (by omega), setI_ne hx]
              exact (hR.obj b2 (by omega)).ext (by omega) (fun b hb => setI_ne (by omega)) fun hl => hblk _ (hR.lt b2 (by omega) hl)
          inj := fun b1 b2 h1 h2 l1 l2 ee => by
            by_cases e1 : b1 = h.n <;> by_cases e2 : b2 = h.n
            · omega
            · rw [k5 b2 (by omega)] at l2
              have := hR.lt b2 (by omega) l2
              rw [e1, setI_same, setI_ne e2] at ee
              omega
            · rw [k5 b1 (by omega)] at l1
              have := hR.lt b1 (by omega) l1
              rw [e2, setI_same, setI_ne e1] at ee
              omega
            · rw [k5 b1 (by omega)] at l1
              rw [k5 b2 (by omega)] at l2
              rw [setI_ne e1, setI_ne e2] at ee
              exact hR.inj b1 b2 (by omega) (by omega) l1 l2 ee
          own := fun k ⟨b2, hb2, hw2, ee⟩ => by
            by_cases e2 : b2 = h.n
            · have := hR.sz; rw [e2, setI_same] at ee; omega
            · rw [k5 b2 (by omega)] at hw2; rw [setI_ne e2] at ee
              exact hR.own k ⟨b2, by omega, hw2, ee⟩
          sz := by have := hR.sz; have := hbel.size; omega
          lt := fun b2 hb2 hl => by
            by_cases e2 : b2 = h.n
            · rw [e2, setI_same]; exact hlt'
            · rw [k5 b2 (by omega)] at hl; rw [setI_ne e2]
              have := hR.lt b2 (by omega) hl; have := hbel.size; omega }
        keep := fun k hk _ => hblk k hk
        own := fun k hk ⟨b2, hb2, hw2, ee⟩ => by
          by_cases e2 : b2 = h.n
          · rw [e2, setI_same] at ee; omega
          · rw [k5 b2 (by omega)] at hw2; rw [setI_ne e2] at ee
            exact ⟨b2, by omega, hw2, ee⟩
        os := hbel.os
        tape := hbel.tape
        output := hbel.output
        size := hbel.size
        fresh := fun b2 hb2 hl hlt2 => by
          by_cases e2 : b2 = h.n
          · rw [e2, setI_same] at hlt2; omega
          · rw [setI_ne e2]
            rw [k5 b2 (by omega)] at hl
            exact ⟨b2, by omega, hl, rfl⟩ }
  rcases hcr with ⟨r1, r2⟩ | ⟨ι', w', r1, _⟩
  · exact .inl ⟨r1, fun r n => (r2 r n).mono key⟩
  · rw [hC.call f fn hf hb] at r1
    cases r1
/-- The context with one function known by its table. -/
noncomputable def Cx.memo (C : Cx) (f : FuncId) (e : TypeId) (t : List (List Nat × List Nat)) : Cx := ⟨C.ty, C.fn, C.eqt, fun g => ite' (Nat.beq g f) (some (memoG e t)) none⟩
theorem memo_cx (hC : CxOk C0 P) {f : FuncId} {e : TypeId} {t : List (List Nat × List Nat)} : CxOk (C0.memo f e t) P := ⟨hC.ty, hC.fn, hC.call, hC.eq, hC.mixed, hC.dep⟩
theorem memo_gam (hC : CxOk C0 P) (hg : GamOk C0 P) {f : FuncId} {fn : Func} (hf : C0.fn.get f = some fn) (hb : fn.body.isSome = true) {e : TypeId} {K : Nat} {t : List (List Nat × List Nat)}
    (ht : ∀ p ∈ t, memoV C0 f e K p.1 = .ok p.2) : GamOk (C0.memo f e t) P := by
  intro g G hG args h v h' e0
  have hG : ite' (Nat.beq g f) (some (memoG e t)) none = some G := hG
  cases hx : Nat.beq g f with
  | false => rw [hx] at hG; cases hG
  | true =>
    rw [hx, ite'_true] at hG
    injection hG with hG
    subst hG
    rw [beq_eq hx]
    exact memo_ok hC hg hf hb ht args h v h' e0
end Go.Eng
