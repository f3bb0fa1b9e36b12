/- The abstract evaluator, soundness 9: what is built, builtins, interfaces. -/
import Derived.Test.YtbbojdjgabdjmaaGreatDoorEngMap
import Derived.Laws.Tables
namespace Go.Eng
open Go Go.RowKit

theorem conc_cells' (ι : Inj) (v : AV) : (conc ι v).cells = (concL ι (cellsV v)).toArray := by
  cases v with
  | sl b off z len c => cases c <;> rfl
  | _ => rfl
theorem okL_cells {ι : Inj} {n : Nat} {v : AV} (h : okV ι n v) : okL ι n (cellsV v) := by
  cases v <;> first | exact h | exact ⟨h, trivial⟩
theorem foldl_set (off : Nat) : ∀ (l : List Value) (k : Nat) (cs : Array Value), off + k + l.length ≤ cs.size →
    ((l.zipIdx k).foldl (fun cs (p : Value × Nat) => cs.setIfInBounds (off + p.2) p.1) cs).toList = cs.toList.take (off + k) ++ l ++ cs.toList.drop (off + k + l.length) := by
  intro l
  induction l with
  | nil => intro k cs h; simp
  | cons c l ih =>
    intro k cs h
    simp only [List.length_cons] at h
    rw [List.zipIdx_cons, List.foldl_cons, ih (k + 1) _ (by simp; omega)]
    have hlt : off + k < cs.toList.length := by simp; omega
    have hlen : (cs.toList.take (off + k)).length = off + k := by simp; omega
    rw [Array.toList_setIfInBounds, List.set_eq_take_append_cons_drop, if_pos hlt]
    have e1 : (cs.toList.take (off + k) ++ c :: cs.toList.drop (off + k + 1)).take (off + (k + 1)) = cs.toList.take (off + k) ++ [c] := by
      rw [List.take_append, hlen, List.take_of_length_le (by omega), show off + (k + 1) - (off + k) = 1 by omega]
      rfl
    have e2 : (cs.toList.take (off + k) ++ c :: cs.toList.drop (off + k + 1)).drop (off + (k + 1) + l.length) = cs.toList.drop (off + k + (l.length + 1)) := by
      rw [List.drop_append, hlen, List.drop_of_length_le (by omega), show off + (k + 1) + l.length - (off + k) = l.length + 1 by omega, List.drop_succ_cons, List.drop_drop, List.nil_append]
      congr 1
      omega
    rw [e1, e2]
    simp
theorem fill_step {place : Nat → Option (Nat × Nat)} {ι : Inj} {cs : List AV} {i off n : Nat} {v : AV} {rest : List (Nat × Value)} (hp : place i = some (off, n)) (hn : (cellsV v).length = n)
    (hle : off + n ≤ cs.length) : Instr.fill place (concL ι cs).toArray ((i, conc ι v) :: rest) = Instr.fill place (concL ι (cs.take off ++ cellsV v ++ cs.drop (off + (cellsV v).length))).toArray rest := by
  have hsz : (conc ι v).cells.size = n := by rw [conc_cells', List.size_toArray, concL_length, hn]
  rw [Instr.fill]
  simp only [hp]
  rw [hsz, if_neg (by simpa using hle)]
  congr 1
  apply Array.toList_inj.1
  rw [← Array.foldl_toList, Array.toList_zipIdx, conc_cells']
  have := foldl_set off (concL ι (cellsV v)) 0 (concL ι cs).toArray (by simp [hn, hle])
  rw [show (fun (x : Array Value) (p : Value × Nat) => match p with | (c, j) => x.setIfInBounds (off + j) c) = fun cs (p : Value × Nat) => cs.setIfInBounds (off + p.2) p.1 from rfl]
  rw [this]
  simp [concL_eq, hn]
theorem fillV_ok {pl : Nat → E (Nat × Nat)} {place : Nat → Option (Nat × Nat)} {ι : Inj} {m : Nat} (hp : ∀ i q, pl i = .ok q → place i = some q) : ∀ (parts : List (Nat × AV)) (cs cs' : List AV),
    (∀ p ∈ parts, okV ι m p.2) → okL ι m cs → fillV pl parts cs = .ok cs' →
    Instr.fill place (concL ι cs).toArray (parts.map fun p => (p.1, conc ι p.2)) = some (concL ι cs').toArray ∧ okL ι m cs' := by
  intro parts
  induction parts with
  | nil =>
    intro cs cs' _ hok e
    have e : (E.ok cs : E (List AV)) = .ok cs' := e
    injection e with e
    subst e
    exact ⟨rfl, hok⟩
  | cons p parts ih =>
    intro cs cs' hps hok e
    obtain ⟨off, n, h1, e1⟩ := E.bd2_eq_ok (show ((pl p.1).bd2 fun off n => chk (Nat.beq (cellsV p.2).length n && Nat.blt 0 n) 111 <| overL cs off (cellsV p.2) fun cs => nx (fillV pl parts cs)) = .ok cs' from e)
    obtain ⟨h2, e2⟩ := chk_ok e1; clear e1
    rw [Bool.and_eq_true] at h2
    have hn := beq_eq h2.1
    have h0 := blt_eq h2.2
    obtain ⟨h3, e3⟩ := overL_ok e2; clear e2
    have hle : off + n ≤ cs.length := by
      rcases h3 with h3 | h3
      · omega
      · rw [h3] at hn; simp at hn; omega
    have hv := okL_cells (hps p (.head _))
    rw [List.map_cons, fill_step (hp _ _ h1) hn hle]
    exact ih _ _ (fun q hq => hps q (.tail _ hq)) (okL_append.2 ⟨okL_append.2 ⟨okL_take _ hok, hv⟩, okL_drop _ hok⟩) e3
theorem placeA_ok {w i : Nat} {q : Nat × Nat} (e : placeA w i = .ok q) : some (i * w, w) = some q := by
  unfold placeA at e
  rw [fN_eq] at e
  injection e with e
  rw [e]
theorem mapE_opt {α β : Type} {f : α → E β} {g : α → Option β} (hf : ∀ a b, f a = .ok b → g a = some b) : ∀ {l : List α} {r : List β}, mapE f l = .ok r → l.mapM g = some r := by
  intro l
  induction l with
  | nil => intro r h; injection h with h; subst h; rfl
  | cons a l ih =>
    intro r h
    rw [mapE_cons] at h
    obtain ⟨b, h1, h2⟩ := E.bd_eq_ok h
    obtain ⟨bs, h3, h4⟩ := E.bd_eq_ok h2
    injection h4 with h4
    subst h4
    simp [List.mapM_cons, hf a b h1, ih h3]
/-- Where a slice that is not empty points to. -/
theorem sl_addr {ι : Inj} {n b off z len : Nat} {c : ACap} (hok : okV ι n (.sl b off z len c)) (hl : 0 < len) :
    ∃ cc, conc ι (.sl b off z len c) = .slice (some ⟨(ι b).blk, (ι b).off + off, none⟩) len cc := by
  cases c with
  | kn c => exact ⟨_, rfl⟩
  | op s' =>
    have hs0 : 0 < s' := hok.2.1
    have h0' : off + len * s' ≤ (ι b).cap := hok.2.2
    have : s' ≤ len * s' := Nat.le_mul_of_pos_left _ hl
    have : ¬ ((ι b).cap - off) / s' = 0 := by
      have := Nat.div_pos (show s' ≤ (ι b).cap - off by omega) hs0
      omega
    refine ⟨((ι b).cap - off) / s', ?_⟩
    simp only [conc, concSl]
    rw [if_neg this]
  | zc s' => exact absurd hok.2.2 (by omega)

section
variable {C : Cx} {P : Program} (hC : CxOk C P) {B : Nat} {ι : Inj} {h : H} {w : World} (hR : R B ι h w)
include hC
theorem placesS_ok {fs : List Field} {pl : List (Nat × Nat)} (e : placesS C fs = .ok pl) : fs.mapM (fun f => (P.info? f.type).map fun i => (f.offset, i.size)) = some pl :=
  mapE_opt (fun f q e => by
    obtain ⟨n, h1, h2⟩ := E.bd_eq_ok e
    injection h2 with h2
    obtain ⟨i, h3, h4⟩ := sz_ok hC h1
    subst h2
    simp [h3, h4]) e
theorem zeroV_info {t : TypeId} {a : AV} (e : zeroV C t = .ok a) (ι : Inj) : ∃ i, P.info? t = some i ∧ i.zero = some (conc ι a) := by
  obtain ⟨i, h1, h2⟩ := E.bd_eq_ok e
  split at h2
  · rename_i v hz
    exact ⟨i, info_ok hC h1, by rw [hz, (ofV2_ok (ι := ι) (n := 0) h2).1]⟩
  · cases h2
theorem buildV_ok {t : TypeId} {ps : List (Nat × AV)} {v : AV} {parts : Array (Nat × Value)} (hparts : parts.toList = ps.map fun p => (p.1, conc ι p.2)) (hps : ∀ p ∈ ps, okV ι h.n p.2) (e : buildV C t ps = .ok v) :
    (Instr.build t parts).run P w = .ok (conc ι v) w ∧ okV ι h.n v := by
  obtain ⟨z, h1, e1⟩ := E.bd_eq_ok e; clear e
  obtain ⟨u, h2, e2⟩ := E.bd_eq_ok e1; clear e1
  obtain ⟨i, i1, i2⟩ := zeroV_info hC h1 ι
  have hz := (zeroV_ok hC h1 ι h.n).2.1
  split at e2
  · rename_i fs
    obtain ⟨pl, h3, e3⟩ := E.bd_eq_ok e2; clear e2
    obtain ⟨cs, h4, e4⟩ := E.bd_eq_ok e3; clear e3
    injection e4 with e4
    subst e4
    have hpl := placesS_ok hC h3
    obtain ⟨g1, g2⟩ := fillV_ok (ι := ι) (m := h.n) (place := (pl.toArray[·]?)) (fun j q e => by
      have := ofOpt_ok e
      rw [nth_eq] at this
      simpa using this) ps _ _ hps (okL_cells hz) h4
    refine ⟨run_build w t parts _ ?_, g2⟩
    unfold Program.built
    rw [i1, und_ok hC h2]
    simp only [i2, hpl, hparts, conc_cells']
    exact g1
  · rename_i n e'
    obtain ⟨s, h3, e3⟩ := E.bd_eq_ok e2; clear e2
    obtain ⟨cs, h4, e4⟩ := E.bd_eq_ok e3; clear e3
    injection e4 with e4
    subst e4
    obtain ⟨ie, j1, j2⟩ := sz_ok hC h3
    obtain ⟨g1, g2⟩ := fillV_ok (ι := ι) (m := h.n) (place := fun i => some (i * s, s)) (fun j q e => placeA_ok e) ps _ _ hps (okL_cells hz) h4
    refine ⟨run_build w t parts _ ?_, g2⟩
    unfold Program.built
    rw [i1, und_ok hC h2]
    simp only [i2, j1, j2, hparts, conc_cells']
    exact g1
  · cases e2
include hR
theorem buildSl_ok {t : TypeId} {len : Nat} {ps : List (Nat × AV)} {v : AV} {h' : H} {parts : Array (Nat × Value)} (hparts : parts.toList = ps.map fun p => (p.1, conc ι p.2)) (hps : ∀ p ∈ ps, okV ι h.n p.2) (e : buildSl C t len ps h = .ok (v, h')) :
    ∃ ι' w', (Instr.buildSlice t len parts).run P w = .ok (conc ι' v) w' ∧ Stp B ι ι' h h' w w' ∧ okV ι' h'.n v := by
  obtain ⟨u, h1, e1⟩ := E.bd_eq_ok e; clear e
  split at e1
  case h_2 => cases e1
  rename_i el
  obtain ⟨s, h2, e2⟩ := E.bd_eq_ok e1; clear e1
  by_cases hl0 : len = 0
  · subst hl0
    simp only [show Nat.beq 0 0 = true from rfl, ite'_true] at e2
    split at e2
    case h_2 => cases e2
    obtain ⟨hh, k1, k2, k3, k4, k5⟩ := newO_ok e2
    injection k1 with k1
    injection k1 with k1 k1'
    subst k1 k1'
    have hst := new_cells (e := el) (op := false) (pu := true) (cs := []) hR k2 k3 k4 k5 trivial [] (fun _ => rfl)
    refine ⟨_, _, ?_, hst, by show h.n < hh.n; omega, Nat.le_refl _⟩
    unfold Instr.buildSlice
    have hp0 : parts.toList = [] := by simpa using hparts
    simp only [Sem.run_bind, run_und hC h1, run_sz hC h2, Result.andThen_ok]
    rw [if_neg (by omega), if_pos (by omega)]
    simp only [Sem.run_bind, Sem.run_pure, Result.andThen_ok, hp0, Nat.zero_mul]
    simp [Instr.fill, run_newRow, conc, concSl, concL, Result.andThen]
    congr 2
    exact Array.eq_empty_of_size_eq_zero (by simp)
  rw [beq_f hl0, ite'_false] at e2
  obtain ⟨h3, e3⟩ := chk_ok e2; clear e2
  rw [Bool.and_eq_true] at h3
  have h31 := ble_eq h3.1
  have h32 := blt_eq h3.2
  obtain ⟨z, h4, e4⟩ := E.bd_eq_ok e3; clear e3
  obtain ⟨h5, e5⟩ := chk_ok e4; clear e4
  have h5 := beq_eq h5
  obtain ⟨cs, h6, e6⟩ := E.bd_eq_ok e5; clear e5
  obtain ⟨h7, e7⟩ := chk_ok e6; clear e6
  have h7 := beq_eq h7
  obtain ⟨hh, k1, k2, k3, k4, k5⟩ := newO_ok e7
  injection k1 with k1
  injection k1 with k1 k1'
  subst k1 k1'
  obtain ⟨z1, z2, z3, _⟩ := zeroV_ok hC h4 ι h.n
  obtain ⟨g1, g2⟩ := fillV_ok (ι := ι) (m := h.n) (place := fun i => some (i * s, s)) (fun j q e => placeA_ok e) ps _ _ hps (repL_ok (okL_cells z2)) h6
  have hst := new_cells (e := el) (op := false) (pu := true) hR k2 k3 k4 k5 g2 [] (fun _ => rfl)
  refine ⟨_, _, ?_, hst, by show h.n < hh.n; omega, Nat.le_refl _⟩
  unfold Instr.buildSlice
  have hz := zeros_eq (ι := ι) (z := z) len z3 (by rw [h5]; exact h32)
  rw [h5] at hz
  simp only [Sem.run_bind, run_und hC h1, run_sz hC h2, Result.andThen_ok]
  rw [if_neg (by omega), if_neg (by omega)]
  simp only [Sem.run_bind, Sem.run_pure, Result.andThen_ok, z1, hz, hparts, g1, run_newRow]
  simp [conc, concSl]
theorem clearV_ok {ats : Array TypeId} {ty : TypeId} {x : AV} {h' : H} (hx : okV ι h.n x) (e : clearV C ats.toList x h = .ok h') :
    ∃ w', (Builtin.clear_ ats ty #[conc ι x]).run P w = .ok (.tuple #[]) w' ∧ Stp B ι ι h h' w w' := by
  obtain ⟨t, h0, e0⟩ := E.bd_eq_ok e; clear e
  have h0 := ofOpt_ok h0
  rw [nth_eq, Array.getElem?_toList] at h0
  obtain ⟨u, h1, e1⟩ := E.bd_eq_ok e0; clear e0
  unfold Builtin.clear_
  simp only [h0, List.getElem?_toArray, List.getElem?_cons_zero, Sem.run_bind, run_und hC h1, Result.andThen_ok]
  split at e1
  · injection e1 with e1
    subst e1
    exact ⟨w, rfl, Stp.refl hR⟩
  · rename_i kt vt r
    obtain ⟨es, c, g1, g2, g3, g4, g5⟩ := withMap_ok hR e1
    have hlt := hR.lt r g1 (by rw [g2]; rfl)
    obtain ⟨hh, m1, m2, m3, m4, m5⟩ := setO_ok hR.n g3
    injection m1 with m1
    subst m1
    refine ⟨_, ?_, Stp.of_put (.map #[] c) hR g1 m3 m5 (by rw [g2]; rfl) ?_⟩
    · simp only [conc, Sem.run_bind, run_getObj g4, Result.andThen_ok, run_setObj _ g4, Sem.run_pure]
    · rw [m4]
      exact ⟨put_at hlt, fun _ he => (by cases he)⟩
  · injection e1 with e1
    subst e1
    exact ⟨w, rfl, Stp.refl hR⟩
  · rename_i el b off zz len c
    by_cases hl : len = 0
    · rw [beq_t hl] at e1
      simp only [ite'_true] at e1
      injection e1 with e1
      subst e1 hl
      refine ⟨w, ?_, Stp.refl hR⟩
      cases c <;> rfl
    · rw [beq_f hl] at e1
      simp only [ite'_false] at e1
      obtain ⟨s, h2, e2⟩ := E.bd_eq_ok e1; clear e1
      obtain ⟨z, h3, e3⟩ := E.bd_eq_ok e2; clear e2
      obtain ⟨h4, e4⟩ := chk_ok e3; clear e3
      rw [Bool.and_eq_true] at h4
      have h41 := beq_eq h4.1
      have h42 := blt_eq h4.2
      rw [fLs_eq] at e4
      obtain ⟨z1, z2, z3, _⟩ := zeroV_ok hC h3 ι h.n
      obtain ⟨hh, w', k1, k2, k3, k4, k5⟩ := storeN_ok (P := P) hR (repL_ok (okL_cells z2)) e4
      injection k1 with k1
      subst k1
      obtain ⟨cc, hcc⟩ := sl_addr hx (by omega)
      have hz := zeros_eq (ι := ι) (z := z) len z3 (by rw [h41]; exact Nat.mul_pos (by omega) h42)
      refine ⟨w', ?_, k4⟩
      rw [hcc]
      have hlen : ∃ l', len = l' + 1 := ⟨len - 1, by omega⟩
      obtain ⟨l', rfl⟩ := hlen
      simp only [Sem.run_bind, z1, Result.andThen_ok]
      unfold Builtin.zeroCells
      rw [show (conc ι z).cells.size = (cellsV z).length by rw [conc_cells' ι z]; simp]
      rw [show (conc ι z).cells.size = (cellsV z).length by rw [conc_cells' ι z]; simp] at hz
      rw [hz]
      simp only [k3, Result.andThen_ok, Sem.run_pure]
  · cases e1
theorem lenB_ok {ats : Array TypeId} {ty : TypeId} {x v : AV} (e : lenB C ats.toList x h = .ok v) :
    (Builtin.len_ ats ty #[conc ι x]).run P w = .ok (conc ι v) w ∧ okV ι h.n v := by
  obtain ⟨t, h0, e0⟩ := E.bd_eq_ok e; clear e
  have h0 := ofOpt_ok h0
  rw [nth_eq, Array.getElem?_toList] at h0
  obtain ⟨u, h1, e1⟩ := E.bd_eq_ok e0; clear e0
  unfold Builtin.len_
  simp only [h0, List.getElem?_toArray, List.getElem?_cons_zero, Sem.run_bind, run_und hC h1, Result.andThen_ok]
  split at e1
  · rw [fN_eq] at e1
    injection e1 with e1
    subst e1
    refine ⟨?_, trivial⟩
    simp only [conc, Sem.run_pure, concStr_size]
    rfl
  · injection e1 with e1
    subst e1
    exact ⟨rfl, trivial⟩
  · obtain ⟨u', h2, e2⟩ := E.bd_eq_ok e1; clear e1
    split at e2
    · injection e2 with e2
      subst e2
      refine ⟨?_, trivial⟩
      simp only [Sem.run_bind, run_und hC h2, Result.andThen_ok]
      rfl
    · cases e2
  · injection e1 with e1
    subst e1
    exact ⟨rfl, trivial⟩
  · rename_i el b off zz len c
    injection e1 with e1
    subst e1
    refine ⟨?_, trivial⟩
    cases c <;> rfl
  · injection e1 with e1
    subst e1
    exact ⟨rfl, trivial⟩
  · obtain ⟨es, c, g1, g2, g3, g4, g5⟩ := withMap_ok hR e1
    rw [fN_eq] at g3
    injection g3 with g3
    subst g3
    refine ⟨?_, trivial⟩
    simp only [conc, Sem.run_bind, run_getObj g4, Result.andThen_ok, Sem.run_pure]
    simp [goInt]
  · cases e1
omit hR in
theorem capB_ok {ats : Array TypeId} {ty t el : TypeId} {x v : AV} (h0 : ats[0]? = some t) (h1 : und C t = .ok (.slice el)) (e : capB x = .ok v) :
    (Builtin.cap_ ats ty #[conc ι x]).run P w = .ok (conc ι v) w ∧ okV ι h.n v := by
  unfold Builtin.cap_
  simp only [h0, List.getElem?_toArray, List.getElem?_cons_zero, Sem.run_bind, run_und hC h1, Result.andThen_ok]
  unfold capB at e
  split at e
  · injection e with e
    subst e
    exact ⟨rfl, trivial⟩
  · injection e with e
    subst e
    exact ⟨rfl, trivial⟩
  · injection e with e
    subst e
    exact ⟨rfl, trivial⟩
  · cases e
omit hR hC in
theorem extB_ok (isMax : Bool) : ∀ (rest : List AV) (x v : AV), okV ι h.n x → extB isMax x rest = .ok v →
    ((rest.map (conc ι)).foldlM (if isMax then Builtin.max2 else Builtin.min2) (conc ι x)).run P w = .ok (conc ι v) w ∧ okV ι h.n v := by
  intro rest
  induction rest with
  | nil =>
    intro x v hx e
    have e : (E.ok x : E AV) = .ok v := e
    injection e with e
    subst e
    exact ⟨rfl, hx⟩
  | cons y rest ih =>
    intro x v hx e
    obtain ⟨a, h1, e1⟩ := E.bd_eq_ok (show ((ext2 isMax x y).bd fun x => extB isMax x rest) = .ok v from e)
    unfold ext2 at h1
    split at h1
    case h_2 => cases h1
    rename_i k a' k' b'
    cases isMax
    · simp only [ite'_false] at h1
      have h1 := mkI_ok h1
      subst h1
      have := ih (.int _ _) v trivial e1
      refine ⟨?_, this.2⟩
      rw [List.map_cons, List.foldlM_cons, Sem.run_bind]
      exact this.1
    · simp only [ite'_true] at h1
      have h1 := mkI_ok h1
      subst h1
      have := ih (.int _ _) v trivial e1
      refine ⟨?_, this.2⟩
      rw [List.map_cons, List.foldlM_cons, Sem.run_bind]
      exact this.1
omit hR in
theorem mkIface_ok {t : TypeId} {x v : AV} (hx : okV ι h.n x) (e : mkIface C t x = .ok v) :
    (Instr.makeInterface t (conc ι x)).run P w = .ok (conc ι v) w ∧ okV ι h.n v := by
  obtain ⟨u, h1, e1⟩ := E.bd_eq_ok e; clear e
  unfold Instr.makeInterface
  simp only [Sem.run_bind, run_und hC h1, Result.andThen_ok]
  split at e1
  · cases e1
  · rename_i hne
    injection e1 with e1
    subst e1
    refine ⟨?_, hx⟩
    cases u <;> first | rfl | exact absurd rfl (hne _)
omit hR in
theorem assertV_ok {x v : AV} {xt t : TypeId} {ok : Bool} (hx : okV ι h.n x) (e : assertV C x t ok = .ok v) :
    (Instr.typeAssert (conc ι x) xt t ok).run P w = .ok (conc ι v) w ∧ okV ι h.n v := by
  obtain ⟨u, h1, e1⟩ := E.bd_eq_ok e; clear e
  unfold Instr.typeAssert
  simp only [Sem.run_bind, run_und hC h1, Result.andThen_ok]
  split at e1
  · cases e1
  · rename_i t' x' hne
    by_cases ht : t' = t
    · rw [beq_t ht] at e1
      simp only [ite'_true] at e1
      injection e1 with e1
      subst e1
      cases ok
      · refine ⟨?_, hx⟩
        cases u <;> first | exact absurd rfl (hne _) | (simp only [conc, ht, if_true]; rfl)
      · refine ⟨?_, hx, trivial, trivial⟩
        cases u <;> first | exact absurd rfl (hne _) | (simp only [conc, ht, if_true]; rfl)
    · rw [beq_f ht] at e1
      simp only [ite'_false] at e1
      cases ok
      · cases e1
      · simp only [if_true] at e1
        obtain ⟨z, h2, e2⟩ := E.bd_eq_ok e1; clear e1
        injection e2 with e2
        subst e2
        obtain ⟨z1, z2, _, _⟩ := zeroV_ok hC h2 ι h.n
        refine ⟨?_, z2, trivial, trivial⟩
        cases u <;> first | exact absurd rfl (hne _) | (simp only [conc, ht, if_false, if_true, Sem.run_bind, z1, Result.andThen_ok]; rfl)
  · rename_i hne
    cases ok
    · cases e1
    · simp only [if_true] at e1
      obtain ⟨z, h2, e2⟩ := E.bd_eq_ok e1; clear e1
      injection e2 with e2
      subst e2
      obtain ⟨z1, z2, _, _⟩ := zeroV_ok hC h2 ι h.n
      refine ⟨?_, z2, trivial, trivial⟩
      cases u <;> first | exact absurd rfl (hne _) | (simp only [conc, if_true, Sem.run_bind, z1, Result.andThen_ok]; rfl)
  · cases e1
omit hR hC in
theorem extrV_ok {x v : AV} {i : Nat} (hx : okV ι h.n x) (e : extrV x i = .ok v) :
    (Instr.extract (conc ι x) i).run P w = .ok (conc ι v) w ∧ okV ι h.n v := by
  unfold extrV at e
  split at e
  case h_2 => cases e
  rename_i vs
  have h1 := ofOpt_ok e
  rw [nth_eq] at h1
  refine ⟨?_, okL_get hx h1⟩
  simp [Instr.extract, conc, concL_eq, h1]
end
end Go.Eng
