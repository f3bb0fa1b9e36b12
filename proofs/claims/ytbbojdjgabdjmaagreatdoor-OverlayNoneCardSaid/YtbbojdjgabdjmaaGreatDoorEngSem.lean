/- The abstract evaluator, soundness 2: types, loads, stores, new blocks. -/
import Derived.Test.YtbbojdjgabdjmaaGreatDoorEngRel
namespace Go.Eng
open Go Go.RowKit

structure CxOk (C : Cx) (P : Program) : Prop where
  ty : ∀ t i, C.ty.get t = some i → P.info? t = some i
  fn : ∀ f fn, C.fn.get f = some fn → P.funcs[f]? = some fn
  call : ∀ f fn, C.fn.get f = some fn → fn.body.isSome = true → ∀ args w, (callFunc f args).run P w = .ok (.enter f args) w
  eq : ∀ t, memN C.eqt t = true → P.stoodInHeld t = false
  mixed : P.follows .mixedOrders = true
  dep : 8 ≤ P.depth

section
variable {C : Cx} {P : Program} (hC : CxOk C P)
include hC
theorem info_ok {t : TypeId} {i : TypeInfo} (h : info C t = .ok i) : P.info? t = some i := hC.ty t i (ofOpt_ok h)
theorem und_ok {t : TypeId} {d : TypeDesc} (h : und C t = .ok d) : P.underlying t = some d := by
  obtain ⟨i, h1, h2⟩ := E.bd_eq_ok h
  have hi := info_ok hC h1
  unfold Program.underlying
  rw [hi]
  obtain ⟨desc, str, size, bytes, hp, al, fal, zero, comp, ms⟩ := i
  cases desc <;> simp only at h2 <;> first
    | (injection h2 with h2; subst h2; rfl)
    | skip
  obtain ⟨j, h3, h4⟩ := E.bd_eq_ok h2
  injection h4 with h4
  subst h4
  simp [info_ok hC h3]
theorem run_und {t : TypeId} {d : TypeDesc} (h : und C t = .ok d) (w : World) : (underlying t).run P w = .ok d w := by
  unfold underlying
  simp [und_ok hC h]
theorem sz_ok {t : TypeId} {n : Nat} (h : sz C t = .ok n) : ∃ i, P.info? t = some i ∧ i.size = n := by
  obtain ⟨i, h1, h2⟩ := E.bd_eq_ok h
  rw [fN_eq] at h2
  injection h2 with h2
  exact ⟨i, info_ok hC h1, h2⟩
theorem run_sz {t : TypeId} {n : Nat} (h : sz C t = .ok n) (w : World) : (sizeOf t).run P w = .ok n w := by
  obtain ⟨i, h1, h2⟩ := sz_ok hC h
  unfold sizeOf typeInfo
  simp [h1, h2]
theorem run_info {t : TypeId} {i : TypeInfo} (h : info C t = .ok i) (w : World) : (typeInfo t).run P w = .ok i w := by
  unfold typeInfo
  simp [info_ok hC h]
theorem run_isAg {t : TypeId} {b : Bool} (h : isAg C t = .ok b) (w : World) : (isAgg t).run P w = .ok b w := by
  obtain ⟨d, h1, h2⟩ := E.bd_eq_ok h
  unfold isAgg
  simp only [Sem.run_bind, run_und hC h1, Result.andThen_ok]
  cases d <;> simp only at h2 <;> injection h2 with h2 <;> subst h2 <;> rfl
end

/-! ### Constants -/
theorem UInt8.ofNat_toNat' (b : UInt8) : UInt8.ofNat b.toNat = b := by simp
theorem concStr_of (s : ByteArray) : concStr (s.data.toList.map UInt8.toNat) = s := by
  obtain ⟨⟨l⟩⟩ := s
  simp only [concStr, List.map_map]
  congr 2
  have : (UInt8.ofNat ∘ UInt8.toNat) = id := funext fun b => UInt8.ofNat_toNat' b
  rw [this, List.map_id]
theorem ofV1_ok {ι : Inj} {n : Nat} {v : Value} {a : AV} (h : ofV1 v = .ok a) : conc ι a = v ∧ okV ι n a ∧ isCell a = true := by
  unfold ofV1 at h
  split at h
  · injection h with h; subst h; exact ⟨rfl, trivial, rfl⟩
  · rw [fI_eq] at h; injection h with h; subst h; exact ⟨rfl, trivial, rfl⟩
  · rw [fLN_eq] at h; injection h with h; subst h
    refine ⟨by simp only [conc, concStr_of], fun b hb => ?_, rfl⟩
    obtain ⟨x, _, rfl⟩ := List.mem_map.1 hb
    exact x.toNat_lt
  · injection h with h; subst h; exact ⟨rfl, trivial, rfl⟩
  · injection h with h; subst h; exact ⟨rfl, trivial, rfl⟩
  · injection h with h; subst h; exact ⟨rfl, trivial, rfl⟩
  · injection h with h; subst h; exact ⟨rfl, trivial, rfl⟩
  · injection h with h; subst h; exact ⟨rfl, trivial, rfl⟩
  · cases h
theorem mapE_ok {α β : Type} {f : α → E β} {l : List α} {r : List β} (h : mapE f l = .ok r) : r.length = l.length ∧ ∀ (i : Nat) (a : α), l[i]? = some a → ∃ b, r[i]? = some b ∧ f a = .ok b := by
  induction l generalizing r with
  | nil => injection h with h; subst h; exact ⟨rfl, fun i a h => by simp at h⟩
  | cons a l ih =>
    rw [mapE_cons] at h
    obtain ⟨b, h1, h2⟩ := E.bd_eq_ok h
    obtain ⟨bs, h3, h4⟩ := E.bd_eq_ok h2
    injection h4 with h4; subst h4
    obtain ⟨g1, g2⟩ := ih h3
    refine ⟨by simp [g1], fun i x hx => ?_⟩
    cases i with
    | zero => simp at hx; subst hx; exact ⟨b, by simp, h1⟩
    | succ i => simp at hx; obtain ⟨y, hy, hf⟩ := g2 i x hx; exact ⟨y, by simpa using hy, hf⟩
theorem mapE_map {α β γ : Type} {f : α → E β} {g : α → γ} {k : β → γ} (hf : ∀ a b, f a = .ok b → k b = g a) {l : List α} {r : List β} (h : mapE f l = .ok r) : r.map k = l.map g := by
  induction l generalizing r with
  | nil => injection h with h; subst h; rfl
  | cons a l ih =>
    rw [mapE_cons] at h
    obtain ⟨b, h1, h2⟩ := E.bd_eq_ok h
    obtain ⟨bs, h3, h4⟩ := E.bd_eq_ok h2
    injection h4 with h4; subst h4
    simp [hf _ _ h1, ih h3]
theorem mapE_all {α β : Type} {f : α → E β} {p : β → Prop} (hf : ∀ a b, f a = .ok b → p b) {l : List α} {r : List β} (h : mapE f l = .ok r) : ∀ b ∈ r, p b := by
  induction l generalizing r with
  | nil => injection h with h; subst h; intro b hb; cases hb
  | cons a l ih =>
    rw [mapE_cons] at h
    obtain ⟨b, h1, h2⟩ := E.bd_eq_ok h
    obtain ⟨bs, h3, h4⟩ := E.bd_eq_ok h2
    injection h4 with h4; subst h4
    intro x hx
    rcases List.mem_cons.1 hx with rfl | hx
    · exact hf _ _ h1
    · exact ih h3 x hx
theorem ofV2_ok {ι : Inj} {n : Nat} {v : Value} {a : AV} (h : ofV2 v = .ok a) : conc ι a = v ∧ okV ι n a ∧ (∀ vs, a ≠ .tup vs) ∧ allB isCell (cellsV a) = true := by
  unfold ofV2 at h
  split at h
  · rename_i cs
    obtain ⟨l, h1, h2⟩ := E.bd_eq_ok h
    injection h2 with h2; subst h2
    refine ⟨?_, ?_, fun vs => by simp, ?_⟩
    · simp only [conc, concL_eq]
      rw [mapE_map (g := id) (k := conc ι) (fun a b hb => (ofV1_ok (n := n) hb).1) h1]
      simp
    · show okL ι n l
      rw [okL_iff]
      exact mapE_all (fun a b hb => (ofV1_ok (ι := ι) hb).2.1) h1
    · show allB isCell l = true
      have := mapE_all (p := fun b => isCell b = true) (fun a b hb => (ofV1_ok (ι := ι) (n := n) hb).2.2) h1
      clear h1 h
      induction l with
      | nil => rfl
      | cons x l ih => show ite' (isCell x) (allB isCell l) false = true; rw [this x (by simp), ih fun b hb => this b (by simp [hb])]; rfl
  · obtain ⟨h1, h2, h3⟩ := ofV1_ok (ι := ι) (n := n) h
    have ht : ∀ vs, a ≠ .tup vs := fun vs e => by rw [e] at h3; simp [isCell] at h3
    refine ⟨h1, h2, ht, ?_⟩
    cases a <;> first | rfl | (simp [isCell] at h3; done)
theorem ofV_ok {ι : Inj} {n : Nat} {v : Value} {a : AV} (h : ofV v = .ok a) : conc ι a = v ∧ okV ι n a := by
  unfold ofV at h
  split at h
  · rename_i vs
    obtain ⟨l, h1, h2⟩ := E.bd_eq_ok h
    injection h2 with h2; subst h2
    refine ⟨?_, ?_⟩
    · simp only [conc, concL_eq]
      rw [mapE_map (g := id) (k := conc ι) (fun a b hb => (ofV2_ok (n := n) hb).1) h1]
      simp
    · show okL ι n l
      rw [okL_iff]
      exact mapE_all (fun a b hb => (ofV2_ok (ι := ι) hb).2.1) h1
  · obtain ⟨h1, h2, _⟩ := ofV2_ok (ι := ι) (n := n) h
    exact ⟨h1, h2⟩
theorem zeroV_ok {C : Cx} {P : Program} (hC : CxOk C P) {t : TypeId} {a : AV} (h : zeroV C t = .ok a) (ι : Inj) (n : Nat) :
    (∀ w, (zeroValue t).run P w = .ok (conc ι a) w) ∧ okV ι n a ∧ (∀ vs, a ≠ .tup vs) ∧ allB isCell (cellsV a) = true := by
  obtain ⟨i, h1, h2⟩ := E.bd_eq_ok h
  split at h2
  · rename_i v hz
    obtain ⟨g1, g2, g3, g4⟩ := ofV2_ok (ι := ι) (n := n) h2
    refine ⟨fun w => ?_, g2, g3, g4⟩
    unfold zeroValue
    simp only [Sem.run_bind, run_info hC h1, Result.andThen_ok, hz, g1]
    rfl
  · cases h2
theorem allB_mem {α : Type} {p : α → Bool} {l : List α} (h : allB p l = true) : ∀ a ∈ l, p a = true := by
  induction l with
  | nil => intro a ha; cases ha
  | cons x l ih =>
    have h' : ite' (p x) (allB p l) false = true := h
    cases hx : p x with
    | false => rw [hx] at h'; cases h'
    | true =>
      rw [hx] at h'
      intro a ha
      rcases List.mem_cons.1 ha with rfl | ha
      · exact hx
      · exact ih h' a ha

/-! ### Cells -/
theorem add_none (b o n : Nat) : (⟨b, o, none⟩ : Addr).add n = ⟨b, o + n, none⟩ := by unfold Addr.add; split <;> simp_all
theorem withCells_ok {β : Type} {h : H} {b : Nat} {f : List AV → TypeId → Bool → Bool → Bool → E β} {r : β} (e : withCells h b f = .ok r) :
    ∃ cs t op pu ro, b < h.n ∧ h.at b = .cells cs t op pu ro ∧ f cs t op pu ro = .ok r := by
  obtain ⟨o, h1, h2⟩ := E.bd_eq_ok e
  obtain ⟨g1, g2⟩ := getO_ok h1
  cases o <;> simp only at h2 <;> first | (cases h2; done) | exact ⟨_, _, _, _, _, g1, g2, h2⟩
theorem cell_of {ι : Inj} {n : Nat} {L : Loc} {w : World} {cs : List AV} {t : TypeId} {op pu ro : Bool} (hr : ObjR ι n L w (.cells cs t op pu ro)) {i : Nat} {v : AV} (hv : cs[i]? = some v) :
    w.cell? ⟨L.blk, L.off + i, none⟩ = some (conc ι v) := by
  obtain ⟨arr, lo, hi, h1, h2, h3, h4, h5, _⟩ := hr
  simp [World.cell?, h1, h5 i v hv]
section
variable {C : Cx} {P : Program} (hC : CxOk C P) {B : Nat} {ι : Inj} {h : H} {w : World} (hR : R B ι h w)
include hR
theorem load1_ok {b o : Nat} {v : AV} (e : load1 h b o = .ok v) : w.cell? ⟨(ι b).blk, (ι b).off + o, none⟩ = some (conc ι v) ∧ okV ι h.n v ∧ b < h.n := by
  obtain ⟨cs, t, op, pu, ro, hb, hat, e⟩ := withCells_ok e
  have hv := ofOpt_ok e
  rw [nth_eq] at hv
  have ho := hR.obj b hb
  rw [hat] at ho
  refine ⟨cell_of ho hv, ?_, hb⟩
  obtain ⟨_, _, _, _, _, _, _, _, h6, _⟩ := ho
  exact okL_get h6 hv
theorem loadN_ok {b o n : Nat} {l : List AV} (e : loadN h b o n = .ok l) : (loadCells ⟨(ι b).blk, (ι b).off + o, none⟩ n).run P w = .ok (concL ι l).toArray w ∧ okL ι h.n l ∧ l.length = n ∧ b < h.n := by
  obtain ⟨cs, t, op, pu, ro, hb, hat, e⟩ := withCells_ok e
  rw [dropN_eq] at e
  obtain ⟨hn, e⟩ := takeE_ok e
  injection e with e
  have ho := hR.obj b hb
  rw [hat] at ho
  have hlen : l.length = n := by rw [← e, List.length_take, Nat.min_eq_left hn]
  have := run_loadCells_list (P := P) w ⟨(ι b).blk, (ι b).off + o, none⟩ (concL ι l) (fun j v hv => by
    rw [add_none]
    rw [concL_eq, List.getElem?_map] at hv
    obtain ⟨x, hx, rfl⟩ := Option.map_eq_some_iff.1 hv
    have hj : j < n := by
      rcases Nat.lt_or_ge j n with h | h
      · exact h
      · rw [List.getElem?_eq_none (by omega)] at hx; cases hx
    rw [← e, List.getElem?_take_of_lt hj, List.getElem?_drop] at hx
    have := cell_of ho hx
    rwa [← Nat.add_assoc] at this)
  rw [concL_length, hlen] at this
  refine ⟨this, ?_, hlen, hb⟩
  obtain ⟨_, _, _, _, _, _, _, _, h6, _⟩ := ho
  rw [← e]
  exact okL_take _ (okL_drop _ h6)
include hC
theorem loadT_ok {t : TypeId} {b o : Nat} {v : AV} (e : loadT C t b o h = .ok v) : (loadVar t ⟨(ι b).blk, (ι b).off + o, none⟩).run P w = .ok (conc ι v) w ∧ okV ι h.n v ∧ b < h.n := by
  obtain ⟨a, h1, e⟩ := E.bd_eq_ok e
  unfold loadVar
  simp only [Sem.run_bind, run_isAg hC h1, Result.andThen_ok]
  cases a with
  | true =>
    simp only [ite'_true] at e
    obtain ⟨n, h2, e⟩ := E.bd_eq_ok e
    obtain ⟨l, h3, e⟩ := E.bd_eq_ok e
    injection e with e; subst e
    obtain ⟨g1, g2, g3, g4⟩ := loadN_ok (P := P) hR h3
    refine ⟨?_, g2, g4⟩
    simp only [if_true, Sem.run_bind, run_sz hC h2, Result.andThen_ok, g1]
    rfl
  | false =>
    simp only [ite'_false] at e
    obtain ⟨g1, g2, g3⟩ := load1_ok hR e
    refine ⟨?_, g2, g3⟩
    simp only [Bool.false_eq_true, if_false, run_load, g1]
end

/-! ### Stores -/
theorem setCells_heap (b : Nat) : ∀ (vs : List Value) (o : Nat) (w : World) (arr : Array Value) (t : TypeId) (fz : Nat × Nat), w.heap[b]? = some (.cells arr t fz) →
    ∃ arr', (w.setCells b o vs).heap[b]? = some (.cells arr' t fz) ∧ arr'.size = arr.size ∧ ∀ i, arr'[i]? = if o ≤ i ∧ i < o + vs.length ∧ i < arr.size then vs[i - o]? else arr[i]?
  | [], o, w, arr, t, fz, h => ⟨arr, h, rfl, fun i => by rw [if_neg (by simp; omega)]⟩
  | v :: vs, o, w, arr, t, fz, h => by
    have h1 : (w.setCell ⟨b, o, none⟩ v).heap[b]? = some (.cells (arr.setIfInBounds o v) t fz) := by
      simp [World.setCell, Array.getElem?_modify, h]
    obtain ⟨arr', g1, g2, g3⟩ := setCells_heap b vs (o + 1) _ _ t fz h1
    refine ⟨arr', g1, by simpa using g2, fun i => ?_⟩
    rw [g3 i]
    simp only [Array.size_setIfInBounds, List.length_cons]
    by_cases hi : i = o
    · subst hi
      rw [if_neg (by omega)]
      by_cases hs : i < arr.size
      · rw [if_pos (by omega), Array.getElem?_setIfInBounds_self_of_lt hs]; simp
      · rw [if_neg (by omega), Array.getElem?_eq_none (by simpa using hs), Array.getElem?_eq_none (by omega)]
    · rw [Array.getElem?_setIfInBounds_ne (fun e => hi e.symm)]
      by_cases hc : o + 1 ≤ i ∧ i < o + 1 + vs.length ∧ i < arr.size
      · rw [if_pos hc, if_pos (by omega), show i - o = (i - (o + 1)) + 1 by omega, List.getElem?_cons_succ]
      · rw [if_neg hc, if_neg (by omega)]
theorem setCells_other (b : Nat) : ∀ (vs : List Value) (o : Nat) (w : World) (k : Nat), k ≠ b → (w.setCells b o vs).heap[k]? = w.heap[k]?
  | [], _, _, _, _ => rfl
  | v :: vs, o, w, k, hk => by
    rw [World.setCells, setCells_other b vs _ _ k hk]
    exact Below.heap_setCell w ⟨b, o, none⟩ v k hk
theorem setCells_size (b : Nat) : ∀ (vs : List Value) (o : Nat) (w : World), (w.setCells b o vs).heap.size = w.heap.size
  | [], _, _ => rfl
  | v :: vs, o, w => by rw [World.setCells, setCells_size b vs]; simp [World.setCell]
theorem setCells_os (b : Nat) : ∀ (vs : List Value) (o : Nat) (w : World), (w.setCells b o vs).os = w.os ∧ (w.setCells b o vs).tape = w.tape ∧ (w.setCells b o vs).output = w.output
  | [], _, _ => ⟨rfl, rfl, rfl⟩
  | v :: vs, o, w => by rw [World.setCells]; exact setCells_os b vs _ _
section
variable {C : Cx} {P : Program} (hC : CxOk C P) {B : Nat} {ι : Inj} {h : H} {w : World} (hR : R B ι h w)
include hR
/-- Cells of a block are written. -/
theorem storeN_ok {γ : Type} {b o : Nat} {new : List AV} {k : H → E γ} {r : γ} (hnew : okL ι h.n new) (e : storeN h b o new k = .ok r) :
    ∃ h' w', k h' = .ok r ∧ b < h.n ∧ (storeCells ⟨(ι b).blk, (ι b).off + o, none⟩ (concL ι new)).run P w = .ok () w' ∧ Stp B ι ι h h' w w' ∧ h'.n = h.n := by
  obtain ⟨hcell, e⟩ := chk_ok e
  obtain ⟨cs, t, op, pu, ro, hb, hat, e⟩ := withCells_ok e
  obtain ⟨hro, e⟩ := chk_ok e
  obtain ⟨hl, e⟩ := overL_ok e
  obtain ⟨h', hk, _, hn, hat', hoth⟩ := setO_ok hR.n e
  have hro' : ro = false := by simpa using hro
  subst hro'
  have ho := hR.obj b hb
  rw [hat] at ho
  obtain ⟨arr, lo, hi, h1, h2, h3, h4, h5, h6, h7, h8, h9⟩ := ho
  have hlen : new ≠ [] → o + new.length ≤ cs.length := fun hne => hl.resolve_right hne
  have hrun := run_storeCells_cells (P := P) (ι b).blk ((ι b).off + o) (concL ι new) 0 w (fun j hj => by
      rw [concL_length] at hj
      have hne : new ≠ [] := by intro e; simp [e] at hj
      have := hlen hne
      obtain ⟨v, hv⟩ : ∃ v, cs[o + j]? = some v := ⟨_, List.getElem?_eq_getElem (by omega)⟩
      have hc := h5 _ v hv
      rw [show (ι b).off + o + 0 + j = (ι b).off + (o + j) by omega]
      simp [World.cell?, h1, hc])
    (fun j hj => by
      rw [concL_length] at hj
      have hne : new ≠ [] := by intro e; simp [e] at hj
      have := hlen hne
      rw [show (ι b).off + o + 0 + j = (ι b).off + (o + j) by omega]
      have hz := h8 rfl (o + j) (by omega)
      simp only [World.frozen?, h1]
      simp only [Bool.and_eq_false_iff, decide_eq_false_iff_not]
      omega)
    (fun v hv => by
      rw [concL_eq] at hv
      obtain ⟨x, hx, rfl⟩ := List.mem_map.1 hv
      exact conc_isCell (allB_mem hcell x hx))
  obtain ⟨arr', g1, g2, g3⟩ := setCells_heap (ι b).blk (concL ι new) ((ι b).off + o + 0) w arr t (lo, hi) h1
  obtain ⟨o1, o2, o3⟩ := setCells_os (ι b).blk (concL ι new) ((ι b).off + o + 0) w
  refine ⟨h', _, hk, hb, hrun, ?_, hn⟩
  refine Stp.of_set hR hb hn (fun b' hb' hne => hoth b' hb' hne) (by rw [hat]; rfl) (fun k hk => setCells_other _ _ _ _ _ hk) (setCells_size _ _ _ _) ?_ o1 o2 o3
  rw [hat']
  have hnl : (List.take o cs ++ new ++ List.drop (o + new.length) cs).length = cs.length := by
    rcases hl with hl | hl
    · simp; omega
    · subst hl; simp
  refine ⟨arr', lo, hi, g1, by omega, by rw [hnl]; exact h3, fun hop => by rw [hnl]; exact h4 hop, fun i v hv => ?_, ?_, h7, fun _ => h8 rfl, fun a b => by rw [g2]; exact h9 a b⟩
  · rw [g3]
    simp only [concL_length, Nat.add_zero]
    have hi : i < cs.length := by
      rcases Nat.lt_or_ge i cs.length with h | h
      · exact h
      · rw [List.getElem?_eq_none (by omega)] at hv; cases hv
    by_cases hin : o ≤ i ∧ i < o + new.length
    · have hne : new ≠ [] := by intro e; simp [e] at hin; omega
      have := hlen hne
      rw [if_pos (by omega)]
      rw [List.append_assoc, List.getElem?_append_right (by simp; omega), List.getElem?_append_left (by simp; omega)] at hv
      rw [concL_eq, List.getElem?_map, show (ι b).off + i - ((ι b).off + o) = i - (List.take o cs).length by simp; omega, hv]
      rfl
    · rw [if_neg (by omega)]
      refine h5 i v ?_
      by_cases hlt : i < o
      · rw [List.append_assoc, List.getElem?_append_left (by simp; omega), List.getElem?_take_of_lt hlt] at hv
        exact hv
      · rw [List.getElem?_append_right (by simp; omega), List.getElem?_drop] at hv
        by_cases hne : new = []
        · subst hne
          have : o ≤ cs.length := by omega
          simp only [List.append_nil, List.length_take, List.length_nil, Nat.add_zero, Nat.min_eq_left this] at hv
          rwa [show o + (i - o) = i by omega] at hv
        · have := hlen hne
          simp only [List.length_append, List.length_take, Nat.min_eq_left (show o ≤ cs.length by omega)] at hv
          rwa [show o + new.length + (i - (o + new.length)) = i by omega] at hv
  · rw [okL_append, okL_append]
    exact ⟨⟨okL_take _ h6, hnew⟩, okL_drop _ h6⟩
include hC
theorem storeT_ok {γ : Type} {t : TypeId} {b o : Nat} {v : AV} {k : H → E γ} {r : γ} (hv : okV ι h.n v) (e : storeT C t b o v h k = .ok r) :
    ∃ h' w', k h' = .ok r ∧ b < h.n ∧ (storeVar t ⟨(ι b).blk, (ι b).off + o, none⟩ (conc ι v)).run P w = .ok () w' ∧ Stp B ι ι h h' w w' ∧ h'.n = h.n := by
  obtain ⟨n, h1, e⟩ := E.bd_eq_ok e
  obtain ⟨hn, e⟩ := chk_ok e
  have hcl : allB isCell (cellsV v) = true := (chk_ok e).1
  have ht : ∀ vs, v ≠ .tup vs := fun vs e => by subst e; simp [cellsV, allB, isCell] at hcl
  have hok : okL ι h.n (cellsV v) := by
    cases v <;> first | exact hv | exact ⟨hv, trivial⟩
  obtain ⟨h', w', hk, hb, hrun, hs, hn'⟩ := storeN_ok (P := P) hR hok e
  refine ⟨h', w', hk, hb, ?_, hs, hn'⟩
  unfold storeVar
  simp only [Sem.run_bind, run_sz hC h1, Result.andThen_ok, conc_cells ι v ht]
  have hl := beq_eq hn
  simp only [List.size_toArray, concL_length, hl, ne_eq, not_true_eq_false, if_false, hrun]
end

/-! ### New blocks -/
theorem run_newRow {P : Program} (e : TypeId) (cells : Array Value) (w : World) : (newRow e cells).run P w = .ok ⟨w.heap.size, 0, none⟩ (w.alloc (.cells cells e)) := by
  unfold newRow
  simp only [Sem.run_bind, run_newObj, Result.andThen_ok]
  rfl
theorem alloc_lt (w : World) (o : Obj) (k : Nat) (hk : k < w.heap.size) : (w.alloc o).heap[k]? = w.heap[k]? := Below.heap_alloc w o k hk
theorem alloc_new (w : World) (o : Obj) : (w.alloc o).heap[w.heap.size]? = some o := by
  show (w.heap.push o)[w.heap.size]? = some o
  simp
/-- A new block of cells: as many as there are, or more behind them. -/
theorem new_cells {B : Nat} {ι : Inj} {h h' : H} {w : World} {cs : List AV} {e : TypeId} {op pu : Bool} (hR : R B ι h w) (hlt : h.n < 32760) (hn : h'.n = h.n + 1)
    (hat : h'.at h.n = .cells cs e op pu false) (hoth : ∀ b, b < h.n → h'.at b = h.at b) (hok : okL ι h.n cs) (rest : List Value) (hop : op = false → rest = []) :
    Stp B ι (setI ι h.n ⟨w.heap.size, 0, cs.length + rest.length⟩) h h' w (w.alloc (.cells (concL ι cs ++ rest).toArray e)) := by
  have hext : ∀ b, b < h.n → setI ι h.n ⟨w.heap.size, 0, cs.length + rest.length⟩ b = ι b := fun b hb => setI_ne (by omega)
  refine Stp.of_new hR hlt hn hoth rfl (fun k hk => alloc_lt _ _ _ hk) (by simp) ?_ rfl rfl rfl
  rw [hat]
  refine ⟨_, 0, 0, alloc_new _ _, by simp, by simp, fun ho => by simp [hop ho], fun i v hv => ?_, okL_ext (by omega) hext _ hok, fun _ => ⟨rfl, rfl⟩, fun _ i _ => by simp, fun _ _ => ⟨rfl, by simp⟩⟩
  rw [conc_ext hext v (okL_get hok hv)]
  have hi : i < cs.length := by
    rcases Nat.lt_or_ge i cs.length with h | h
    · exact h
    · rw [List.getElem?_eq_none (by omega)] at hv; cases hv
  simp only [Nat.zero_add, List.getElem?_toArray]
  rw [List.getElem?_append_left (by simpa using hi), concL_eq, List.getElem?_map, hv]
  rfl
end Go.Eng
