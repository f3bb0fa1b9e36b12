/- The abstract evaluator, soundness 1: what an abstract value, an abstract heap stand for in the model's world. -/
import Derived.Test.YtbbojdjgabdjmaaGreatDoorEngRun
import Derived.Calls
import Derived.Laws.Sem
import Derived.Laws.Cells
import Derived.Laws.IdiomCopy
import Derived.Laws.Append
import Derived.Below
namespace Go.Eng
open Go Go.RowKit

/-- Where an abstract block lies: the model's block, the place of its first cell, how many cells are its own. -/
structure Loc where
  blk : Nat
  off : Nat
  cap : Nat
abbrev Inj := Nat → Loc

def concFn (ι : Inj) : Fn → Fn
  | .yield l => .yield (ι l).blk
  | f => f
def concSl (L : Loc) (off z len : Nat) : ACap → Value
  | .kn c => .slice (some ⟨L.blk, L.off + off, none⟩) len c
  | .op s => .slice (some ⟨L.blk, L.off + (if (L.cap - off) / s = 0 then z else off), none⟩) len ((L.cap - off) / s)
  | .zc s => .slice (some ⟨L.blk, L.off + (if (L.cap - off) / s = 0 then z else off), none⟩) len 0
def concStr (s : List Nat) : ByteArray := ⟨⟨s.map UInt8.ofNat⟩⟩
mutual
def conc (ι : Inj) : AV → Value
  | .bool b => .bool b
  | .int k n => .int k n
  | .str s => .string (concStr s)
  | .nilp => .pointer none
  | .ptr b o => .pointer (some ⟨(ι b).blk, (ι b).off + o, none⟩)
  | .nils => .slice none 0 0
  | .sl b off z len c => concSl (ι b) off z len c
  | .nilm => .map none
  | .map r => .map (some (ι r).blk)
  | .func fn f c => .func (concFn ι fn) (concL ι f).toArray (concL ι c).toArray
  | .nilf => .nilFunc
  | .iface t v => .iface t (conc ι v)
  | .nili => .nilIface
  | .agg cs => .agg (concL ι cs).toArray
  | .tup vs => .tuple (concL ι vs).toArray
def concL (ι : Inj) : List AV → List Value
  | [] => []
  | v :: l => conc ι v :: concL ι l
end
def okFn (n : Nat) : Fn → Prop
  | .yield l => l < n
  | _ => True
def okCap (L : Loc) (off len : Nat) : ACap → Prop
  | .kn c => len ≤ c
  | .op s => 0 < s ∧ off + len * s ≤ L.cap
  | .zc s => 0 < s ∧ len = 0
mutual
/-- A value names blocks below n alone, and its strings hold bytes. -/
def okV (ι : Inj) (n : Nat) : AV → Prop
  | .str s => ∀ b ∈ s, b < 256
  | .ptr b _ => b < n
  | .sl b off _ len c => b < n ∧ okCap (ι b) off len c
  | .map r => r < n
  | .func fn f c => okFn n fn ∧ okL ι n f ∧ okL ι n c
  | .iface _ v => okV ι n v
  | .agg cs => okL ι n cs
  | .tup vs => okL ι n vs
  | _ => True
def okL (ι : Inj) (n : Nat) : List AV → Prop
  | [] => True
  | v :: l => okV ι n v ∧ okL ι n l
end
theorem concL_eq (ι : Inj) (l : List AV) : concL ι l = l.map (conc ι) := by
  induction l with
  | nil => rfl
  | cons a l ih => simp [concL, ih]
theorem okL_iff {ι : Inj} {n : Nat} {l : List AV} : okL ι n l ↔ ∀ v ∈ l, okV ι n v := by
  induction l with
  | nil => simp [okL]
  | cons a l ih => simp [okL, ih]
@[simp] theorem concL_length (ι : Inj) (l : List AV) : (concL ι l).length = l.length := by simp [concL_eq]
theorem concL_append (ι : Inj) (a b : List AV) : concL ι (a ++ b) = concL ι a ++ concL ι b := by simp [concL_eq]
theorem okL_append {ι : Inj} {n : Nat} {a b : List AV} : okL ι n (a ++ b) ↔ okL ι n a ∧ okL ι n b := by
  simp only [okL_iff, List.mem_append]
  exact ⟨fun h => ⟨fun v hv => h v (.inl hv), fun v hv => h v (.inr hv)⟩, fun h v hv => hv.elim (h.1 v) (h.2 v)⟩
theorem okL_take {ι : Inj} {n : Nat} {a : List AV} (k : Nat) (h : okL ι n a) : okL ι n (a.take k) := by
  rw [okL_iff] at *; exact fun v hv => h v (List.mem_of_mem_take hv)
theorem okL_drop {ι : Inj} {n : Nat} {a : List AV} (k : Nat) (h : okL ι n a) : okL ι n (a.drop k) := by
  rw [okL_iff] at *; exact fun v hv => h v (List.mem_of_mem_drop hv)
theorem okL_get {ι : Inj} {n : Nat} {a : List AV} {i : Nat} {v : AV} (h : okL ι n a) (hi : a[i]? = some v) : okV ι n v := by
  rw [okL_iff] at h; exact h v (List.mem_of_getElem? hi)

/-- The two places agree on the blocks that a value may name. -/
def Ext (n n' : Nat) (ι ι' : Inj) : Prop := ∀ b, b < n ∨ n' ≤ b → ι' b = ι b
mutual
theorem conc_ext {n : Nat} {ι ι' : Inj} (he : ∀ b, b < n → ι' b = ι b) : ∀ (v : AV), okV ι n v → conc ι' v = conc ι v
  | .bool _, _ | .int _ _, _ | .str _, _ | .nilp, _ | .nils, _ | .nilm, _ | .nilf, _ | .nili, _ => rfl
  | .ptr b o, h => by simp only [conc, he b h]
  | .sl b off z len c, h => by simp only [conc, he b h.1]
  | .map r, h => by simp only [conc, he r h]
  | .func fn f c, h => by
    simp only [conc, concL_ext he f h.2.1, concL_ext he c h.2.2]
    cases fn <;> simp only [concFn] <;> rw [he _ h.1]
  | .iface t v, h => by simp only [conc, conc_ext he v h]
  | .agg cs, h => by simp only [conc, concL_ext he cs h]
  | .tup vs, h => by simp only [conc, concL_ext he vs h]
theorem concL_ext {n : Nat} {ι ι' : Inj} (he : ∀ b, b < n → ι' b = ι b) : ∀ (l : List AV), okL ι n l → concL ι' l = concL ι l
  | [], _ => rfl
  | v :: l, h => by simp only [concL, conc_ext he v h.1, concL_ext he l h.2]
end
mutual
theorem okV_ext {n n' : Nat} {ι ι' : Inj} (hn : n ≤ n') (he : ∀ b, b < n → ι' b = ι b) : ∀ (v : AV), okV ι n v → okV ι' n' v
  | .bool _, _ | .int _ _, _ | .nilp, _ | .nils, _ | .nilm, _ | .nilf, _ | .nili, _ => trivial
  | .str _, h => h
  | .ptr b o, h => Nat.lt_of_lt_of_le h hn
  | .sl b off z len c, h => ⟨Nat.lt_of_lt_of_le h.1 hn, by rw [he b h.1]; exact h.2⟩
  | .map r, h => Nat.lt_of_lt_of_le h hn
  | .func fn f c, h => ⟨by cases fn <;> first | trivial | exact Nat.lt_of_lt_of_le h.1 hn, okL_ext hn he f h.2.1, okL_ext hn he c h.2.2⟩
  | .iface t v, h => okV_ext hn he v h
  | .agg cs, h => okL_ext hn he cs h
  | .tup vs, h => okL_ext hn he vs h
theorem okL_ext {n n' : Nat} {ι ι' : Inj} (hn : n ≤ n') (he : ∀ b, b < n → ι' b = ι b) : ∀ (l : List AV), okL ι n l → okL ι' n' l
  | [], _ => trivial
  | v :: l, h => ⟨okV_ext hn he v h.1, okL_ext hn he l h.2⟩
end
theorem conc_isCell {ι : Inj} {v : AV} (h : isCell v = true) : (conc ι v).oneCell' = true := by
  cases v with
  | agg cs => exact absurd h (by simp [isCell])
  | tup vs => exact absurd h (by simp [isCell])
  | sl b off z len c => cases c <;> rfl
  | _ => rfl
theorem conc_cells (ι : Inj) (v : AV) (hv : ∀ vs, v ≠ .tup vs) : (conc ι v).cells = (concL ι (cellsV v)).toArray := by
  cases v with
  | tup vs => exact absurd rfl (hv vs)
  | sl b off z len c => cases c <;> rfl
  | _ => rfl

/-! ### Objects -/
def concE (ι : Inj) (e : Ent) : MapEntry := { key := conc ι e.k, val := conc ι e.v, born := e.born }
def okE (ι : Inj) (n : Nat) (e : Ent) : Prop := okV ι n e.k ∧ okV ι n e.v
/-- The temporaries that stand for a frame's. -/
def Tmps (ι : Inj) (m : Nat) (n : Nat) (t : T3 AV) (a : Array Value) : Prop :=
  n ≤ 512 ∧ a.size = n ∧ ∀ i, i < n → a[i]? = some (conc ι (T3.get t i)) ∧ okV ι m (T3.get t i)
def ObjR (ι : Inj) (n : Nat) (L : Loc) (w : World) : AObj → Prop
  | .dead => True
  | .cells cs e op pu ro => ∃ arr lo hi, w.heap[L.blk]? = some (.cells arr e (lo, hi)) ∧ L.off + L.cap ≤ arr.size ∧ cs.length ≤ L.cap ∧ (op = false → cs.length = L.cap) ∧
      (∀ i v, cs[i]? = some v → arr[L.off + i]? = some (conc ι v)) ∧ okL ι n cs ∧ (pu = true → lo = 0 ∧ hi = 0) ∧ (ro = false → ∀ i, i < L.cap → ¬ (lo ≤ L.off + i ∧ L.off + i < hi)) ∧ (op = false → pu = true → L.off = 0 ∧ L.cap = arr.size)
  | .map es c => w.heap[L.blk]? = some (.map (es.map (concE ι)).toArray c) ∧ ∀ e ∈ es, okE ι n e
  | .sit s p => w.heap[L.blk]? = some (.stringIter (concStr s) p) ∧ L.off = 0
  | .mit m since seen st => w.heap[L.blk]? = some (.mapIter (m.map fun r => (ι r).blk) since seen.toArray st) ∧ since ≤ st ∧ (∀ r, m = some r → r < n) ∧ L.off = 0
  | .loop st pend _ k t ps as body d => ∃ ts fn', w.heap[L.blk]? = some (.loop { state := st, pending := pend, fn := fn', tmps := ts, params := ps.toArray, assign := as, body := body, defers := (ι d).blk }) ∧ Tmps ι n k t ts ∧ d < n
  | .dfr => w.heap[L.blk]? = some (.deferred (some []))
def live : AObj → Bool
  | .dead => false
  | _ => true
/-- May it be written? -/
def wrt : AObj → Bool
  | .dead => false
  | .cells _ _ _ _ ro => !ro
  | _ => true
noncomputable def H.at (h : H) (b : Nat) : AObj := T5.get h.t b
def Own (ι : Inj) (h : H) (k : Nat) : Prop := ∃ b, b < h.n ∧ wrt (h.at b) = true ∧ (ι b).blk = k
structure R (B : Nat) (ι : Inj) (h : H) (w : World) : Prop where
  n : h.n ≤ 32760
  obj : ∀ b, b < h.n → ObjR ι h.n (ι b) w (h.at b)
  inj : ∀ b b', b < h.n → b' < h.n → live (h.at b) = true → live (h.at b') = true → (ι b).blk = (ι b').blk → b = b'
  own : ∀ k, Own ι h k → B ≤ k
  sz : B ≤ w.heap.size
  lt : ∀ b, b < h.n → live (h.at b) = true → (ι b).blk < w.heap.size
/-- From one heap, one world to the next. -/
structure Stp (B : Nat) (ι ι' : Inj) (h h' : H) (w w' : World) : Prop where
  le : h.n ≤ h'.n
  ext : Ext h.n h'.n ι ι'
  rel : R B ι' h' w'
  keep : ∀ k, k < w.heap.size → ¬ Own ι h k → w'.heap[k]? = w.heap[k]?
  own : ∀ k, k < w.heap.size → Own ι' h' k → Own ι h k
  os : w'.os = w.os
  tape : w'.tape = w.tape
  output : w'.output = w.output
  size : w.heap.size ≤ w'.heap.size
  fresh : ∀ b, b < h'.n → live (h'.at b) = true → (ι' b).blk < w.heap.size → ∃ b0, b0 < h.n ∧ live (h.at b0) = true ∧ (ι b0).blk = (ι' b).blk
theorem Stp.refl {B : Nat} {ι : Inj} {h : H} {w : World} (hr : R B ι h w) : Stp B ι ι h h w w :=
  ⟨Nat.le_refl _, fun _ _ => rfl, hr, fun _ _ _ => rfl, fun _ _ h => h, rfl, rfl, rfl, Nat.le_refl _, fun b hb hl _ => ⟨b, hb, hl, rfl⟩⟩
theorem Stp.trans {B : Nat} {ι ι' ι'' : Inj} {h h' h'' : H} {w w' w'' : World} (s : Stp B ι ι' h h' w w') (t : Stp B ι' ι'' h' h'' w' w'') : Stp B ι ι'' h h'' w w'' where
  le := Nat.le_trans s.le t.le
  ext := fun b hb => by
    have l1 := s.le
    have l2 := t.le
    rw [t.ext b (by omega), s.ext b (by omega)]
  rel := t.rel
  keep := fun k hk hn => by
    have h1 := s.size
    rw [t.keep k (by omega) (fun ho => hn (s.own k hk ho)), s.keep k hk hn]
  own := fun k hk ho => by
    have h1 := s.size
    exact s.own k hk (t.own k (by omega) ho)
  os := t.os.trans s.os
  tape := t.tape.trans s.tape
  output := t.output.trans s.output
  size := Nat.le_trans s.size t.size
  fresh := fun b hb hl hlt => by
    obtain ⟨b1, h1, h2, h3⟩ := t.fresh b hb hl (Nat.lt_of_lt_of_le hlt s.size)
    obtain ⟨b0, g1, g2, g3⟩ := s.fresh b1 h1 h2 (by rw [h3]; exact hlt)
    exact ⟨b0, g1, g2, g3.trans h3⟩
theorem Stp.below {B : Nat} {ι ι' : Inj} {h h' : H} {w w' : World} (s : Stp B ι ι' h h' w w') (hr : R B ι h w) : Below B w w' where
  os := s.os
  tape := s.tape
  output := s.output
  size := s.size
  block := fun k hk => s.keep k (Nat.lt_of_lt_of_le hk hr.sz) fun ho => by have := hr.own k ho; omega
theorem Stp.ext' {B : Nat} {ι ι' : Inj} {h h' : H} {w w' : World} (s : Stp B ι ι' h h' w w') : ∀ b, b < h.n → ι' b = ι b := fun b hb => s.ext b (.inl hb)
theorem Stp.conc {B : Nat} {ι ι' : Inj} {h h' : H} {w w' : World} (s : Stp B ι ι' h h' w w') {v : AV} (hv : okV ι h.n v) : conc ι' v = conc ι v := conc_ext s.ext' v hv
theorem Stp.okV {B : Nat} {ι ι' : Inj} {h h' : H} {w w' : World} (s : Stp B ι ι' h h' w w') {v : AV} (hv : okV ι h.n v) : okV ι' h'.n v := okV_ext s.le s.ext' v hv
theorem Stp.concL {B : Nat} {ι ι' : Inj} {h h' : H} {w w' : World} (s : Stp B ι ι' h h' w w') {v : List AV} (hv : okL ι h.n v) : concL ι' v = concL ι v := concL_ext s.ext' v hv
theorem Stp.okL {B : Nat} {ι ι' : Inj} {h h' : H} {w w' : World} (s : Stp B ι ι' h h' w w') {v : List AV} (hv : okL ι h.n v) : okL ι' h'.n v := okL_ext s.le s.ext' v hv
theorem Tmps.ext {ι ι' : Inj} {m m' n : Nat} {t : T3 AV} {a : Array Value} (h : Tmps ι m n t a) (hm : m ≤ m') (he : ∀ b, b < m → ι' b = ι b) : Tmps ι' m' n t a :=
  ⟨h.1, h.2.1, fun i hi => ⟨by rw [conc_ext he _ (h.2.2 i hi).2]; exact (h.2.2 i hi).1, okV_ext hm he _ (h.2.2 i hi).2⟩⟩
theorem concE_ext {n : Nat} {ι ι' : Inj} (he : ∀ b, b < n → ι' b = ι b) {e : Ent} (h : okE ι n e) : concE ι' e = concE ι e := by
  simp [concE, conc_ext he _ h.1, conc_ext he _ h.2]
theorem okE_ext {n n' : Nat} {ι ι' : Inj} (hn : n ≤ n') (he : ∀ b, b < n → ι' b = ι b) {e : Ent} (h : okE ι n e) : okE ι' n' e :=
  ⟨okV_ext hn he _ h.1, okV_ext hn he _ h.2⟩
/-- An object stays what it is: more blocks, another world with this block as it was. -/
theorem ObjR.ext {ι ι' : Inj} {n n' : Nat} {L : Loc} {w w' : World} {o : AObj} (h : ObjR ι n L w o) (hn : n ≤ n') (he : ∀ b, b < n → ι' b = ι b) (hw : live o = true → w'.heap[L.blk]? = w.heap[L.blk]?) : ObjR ι' n' L w' o := by
  cases o with
  | dead => trivial
  | cells cs e op pu ro =>
    obtain ⟨arr, lo, hi, h1, h2, h3, h4, h5, h6, h7, h8, h9⟩ := h
    exact ⟨arr, lo, hi, by rw [hw rfl]; exact h1, h2, h3, h4, fun i v hv => by rw [conc_ext he v (okL_get h6 hv)]; exact h5 i v hv, okL_ext hn he _ h6, h7, h8, h9⟩
  | map es c =>
    refine ⟨by rw [hw rfl, h.1, List.map_congr_left fun e hm => (concE_ext he (h.2 e hm)).symm], fun e hm => okE_ext hn he (h.2 e hm)⟩
  | sit s p => exact ⟨by rw [hw rfl]; exact h.1, h.2⟩
  | mit m since seen st =>
    refine ⟨?_, h.2.1, fun r hr => Nat.lt_of_lt_of_le (h.2.2.1 r hr) hn, h.2.2.2⟩
    rw [hw rfl, h.1]
    cases m with
    | none => rfl
    | some r => simp [he r (h.2.2.1 r rfl)]
  | loop st pend fn k t ps as body d =>
    obtain ⟨ts, fn', h1, h2, h3⟩ := h
    exact ⟨ts, fn', by rw [hw rfl, he d h3]; exact h1, h2.ext hn he, Nat.lt_of_lt_of_le h3 hn⟩
  | dfr => exact (hw rfl).trans h
/-- The rest of the world does not matter. -/
theorem R.world {B : Nat} {ι : Inj} {h : H} {w w' : World} (hr : R B ι h w) (hh : w'.heap = w.heap) : R B ι h w' :=
  ⟨hr.n, fun b hb => (hr.obj b hb).ext (Nat.le_refl _) (fun _ _ => rfl) (fun _ => by rw [hh]), hr.inj, hr.own, by rw [hh]; exact hr.sz, fun b hb hl => by rw [hh]; exact hr.lt b hb hl⟩
theorem Stp.drew {B : Nat} {ι ι' : Inj} {h h' : H} {w w' : World} (s : Stp B ι ι' h h' w w') (k : Nat) : Stp B ι ι' h h' w { w' with drawn := k } :=
  ⟨s.le, s.ext, s.rel.world rfl, s.keep, s.own, s.os, s.tape, s.output, s.size, s.fresh⟩
theorem Stp.drew0 {B : Nat} {ι ι' : Inj} {h h' : H} {w w' : World} (k : Nat) (s : Stp B ι ι' h h' { w with drawn := k } w') : Stp B ι ι' h h' w w' :=
  ⟨s.le, s.ext, s.rel, s.keep, s.own, s.os, s.tape, s.output, s.size, s.fresh⟩

/-! ### Steps of the heap -/
theorem getO_ok {h : H} {b : Nat} {o : AObj} (e : getO h b = .ok o) : b < h.n ∧ h.at b = o := by
  obtain ⟨t, n⟩ := h
  obtain ⟨h1, h2⟩ := chk_ok (show chk (Nat.blt b n) 10 (.ok (T5.get t b)) = .ok o from e)
  exact ⟨by simpa [Nat.blt_eq] using h1, by injection h2⟩
theorem newO_ok {γ : Type} {h : H} {o : AObj} {k : Nat → H → E γ} {r : γ} (e : newO h o k = .ok r) :
    ∃ h', k h.n h' = .ok r ∧ h.n < 32760 ∧ h'.n = h.n + 1 ∧ h'.at h.n = o ∧ ∀ b, b < h.n → h'.at b = h.at b := by
  obtain ⟨t, n⟩ := h
  obtain ⟨h1, h2⟩ := chk_ok (show chk (Nat.blt n 32760) 5 (T5.set t n o fun t => fN (n + 1) fun m => k n ⟨t, m⟩) = .ok r from e)
  have hn : n < 32760 := by simpa [Nat.blt_eq] using h1
  obtain ⟨t', h3, h4⟩ := T5.set_eq (i := n) (by omega) t o fun t => fN (n + 1) fun m => k n ⟨t, m⟩
  rw [h3, fN_eq] at h2
  exact ⟨⟨t', n + 1⟩, h2, hn, rfl, by simp [H.at, h4 n (by omega)], fun b hb => by
    have hb' : b < n := hb
    simp only [H.at]
    rw [h4 b (by omega), if_neg (by omega)]⟩
theorem setO_ok {γ : Type} {h : H} {b : Nat} {o : AObj} {k : H → E γ} {r : γ} (hn : h.n ≤ 32760) (e : setO h b o k = .ok r) :
    ∃ h', k h' = .ok r ∧ b < h.n ∧ h'.n = h.n ∧ h'.at b = o ∧ ∀ b', b' < h.n → b' ≠ b → h'.at b' = h.at b' := by
  obtain ⟨t, n⟩ := h
  obtain ⟨h1, h2⟩ := chk_ok (show chk (Nat.blt b n) 6 (T5.set t b o fun t => k ⟨t, n⟩) = .ok r from e)
  have hb : b < n := by simpa [Nat.blt_eq] using h1
  have hn' : n ≤ 32760 := hn
  obtain ⟨t', h3, h4⟩ := T5.set_eq (i := b) (by omega) t o fun t => k ⟨t, n⟩
  rw [h3] at h2
  exact ⟨⟨t', n⟩, h2, hb, rfl, by simp [H.at, h4 b (by omega)], fun b' hb' hne => by
    have hb'' : b' < n := hb'
    simp only [H.at]
    rw [h4 b' (by omega), if_neg hne]⟩
theorem live_of_wrt {o : AObj} (h : wrt o = true) : live o = true := by cases o <;> first | rfl | exact h
/-- One block is written. -/
theorem Stp.of_set {B : Nat} {ι : Inj} {h h' : H} {w w' : World} {b : Nat} (hr : R B ι h w) (hb : b < h.n) (hn : h'.n = h.n) (hat : ∀ b', b' < h.n → b' ≠ b → h'.at b' = h.at b')
    (hw : wrt (h.at b) = true) (hk : ∀ k, k ≠ (ι b).blk → w'.heap[k]? = w.heap[k]?) (hs : w'.heap.size = w.heap.size) (ho : ObjR ι h.n (ι b) w' (h'.at b))
    (os : w'.os = w.os) (tape : w'.tape = w.tape) (output : w'.output = w.output) : Stp B ι ι h h' w w' where
  le := by omega
  ext := fun _ _ => rfl
  rel := {
    n := by rw [hn]; exact hr.n
    obj := fun b' hb' => by
      rw [hn] at *
      by_cases e : b' = b
      · subst e; exact ho
      · rw [hat b' hb' e]
        refine (hr.obj b' hb').ext (Nat.le_refl _) (fun _ _ => rfl) fun hl => hk _ fun e' => e (hr.inj _ _ hb' hb hl (live_of_wrt hw) e')
    inj := fun b1 b2 h1 h2 l1 l2 e => by
      rw [hn] at h1 h2
      have f : ∀ b', b' < h.n → live (h'.at b') = true → live (h.at b') = true := fun b' hb' hl => by
        by_cases e : b' = b
        · subst e; exact live_of_wrt hw
        · rw [← hat b' hb' e]; exact hl
      exact hr.inj b1 b2 h1 h2 (f _ h1 l1) (f _ h2 l2) e
    own := fun k ⟨b', hb', hw', e⟩ => by
      rw [hn] at hb'
      refine hr.own k ⟨b', hb', ?_, e⟩
      by_cases e' : b' = b
      · subst e'; exact hw
      · rw [← hat b' hb' e']; exact hw'
    sz := by rw [hs]; exact hr.sz
    lt := fun b' hb' hl => by
      rw [hn] at hb'; rw [hs]
      by_cases e' : b' = b
      · subst e'; exact hr.lt _ hb (live_of_wrt hw)
      · rw [hat b' hb' e'] at hl; exact hr.lt _ hb' hl }
  keep := fun k hk' hno => hk k fun e => hno ⟨b, hb, hw, e.symm⟩
  own := fun k _ ⟨b', hb', hw', e⟩ => by
    rw [hn] at hb'
    refine ⟨b', hb', ?_, e⟩
    by_cases e' : b' = b
    · subst e'; exact hw
    · rw [← hat b' hb' e']; exact hw'
  os := os
  tape := tape
  output := output
  size := by omega
  fresh := fun b' hb' hl _ => by
    rw [hn] at hb'
    refine ⟨b', hb', ?_, rfl⟩
    by_cases e' : b' = b
    · subst e'; exact live_of_wrt hw
    · rw [← hat b' hb' e']; exact hl
def setI (ι : Inj) (b : Nat) (L : Loc) : Inj := fun b' => if b' = b then L else ι b'
@[simp] theorem setI_same (ι : Inj) (b : Nat) (L : Loc) : setI ι b L b = L := by simp [setI]
theorem setI_ne {ι : Inj} {b b' : Nat} {L : Loc} (h : b' ≠ b) : setI ι b L b' = ι b' := by simp [setI, h]
/-- A new block. -/
theorem Stp.of_new {B : Nat} {ι : Inj} {h h' : H} {w w' : World} {L : Loc} (hr : R B ι h w) (hlt : h.n < 32760) (hn : h'.n = h.n + 1) (hat : ∀ b', b' < h.n → h'.at b' = h.at b')
    (hL : L.blk = w.heap.size) (hk : ∀ k, k < w.heap.size → w'.heap[k]? = w.heap[k]?) (hs : w'.heap.size = w.heap.size + 1) (ho : ObjR (setI ι h.n L) (h.n + 1) L w' (h'.at h.n))
    (os : w'.os = w.os) (tape : w'.tape = w.tape) (output : w'.output = w.output) : Stp B ι (setI ι h.n L) h h' w w' where
  le := by omega
  ext := fun b hb => setI_ne (by omega)
  rel := {
    n := by omega
    obj := fun b' hb' => by
      rw [hn]
      by_cases e : b' = h.n
      · subst e; rw [setI_same]; exact ho
      · rw [hat b' (by omega), setI_ne e]
        exact (hr.obj b' (by omega)).ext (by omega) (fun b hb => setI_ne (by omega)) fun hl => hk _ (hr.lt b' (by omega) hl)
    inj := fun b1 b2 h1 h2 l1 l2 e => by
      rw [hn] at h1 h2
      by_cases e1 : b1 = h.n <;> by_cases e2 : b2 = h.n
      · omega
      · rw [hat b2 (by omega)] at l2
        have := hr.lt b2 (by omega) l2
        rw [e1, setI_same, setI_ne e2, hL] at e
        omega
      · rw [hat b1 (by omega)] at l1
        have := hr.lt b1 (by omega) l1
        rw [e2, setI_same, setI_ne e1, hL] at e
        omega
      · rw [hat b1 (by omega)] at l1
        rw [hat b2 (by omega)] at l2
        rw [setI_ne e1, setI_ne e2] at e
        exact hr.inj b1 b2 (by omega) (by omega) l1 l2 e
    own := fun k ⟨b', hb', hw', e⟩ => by
      by_cases e' : b' = h.n
      · have := hr.sz; rw [e', setI_same, hL] at e; omega
      · rw [hat b' (by omega)] at hw'; rw [setI_ne e'] at e
        exact hr.own k ⟨b', by omega, hw', e⟩
    sz := by have := hr.sz; omega
    lt := fun b' hb' hl => by
      by_cases e' : b' = h.n
      · rw [e', setI_same, hL]; omega
      · rw [hat b' (by omega)] at hl; rw [setI_ne e']
        have := hr.lt b' (by omega) hl; omega }
  keep := fun k hk' _ => hk k hk'
  own := fun k hk' ⟨b', hb', hw', e⟩ => by
    by_cases e' : b' = h.n
    · rw [e', setI_same, hL] at e; omega
    · rw [hat b' (by omega)] at hw'; rw [setI_ne e'] at e
      exact ⟨b', by omega, hw', e⟩
  os := os
  tape := tape
  output := output
  size := by omega
  fresh := fun b' hb' hl hlt' => by
    by_cases e' : b' = h.n
    · rw [e', setI_same, hL] at hlt'; omega
    · rw [setI_ne e'] at hlt' ⊢
      rw [hat b' (by omega)] at hl
      exact ⟨b', by omega, hl, rfl⟩
/-- A block's cells go over to a new name: they lie where they lay. -/
theorem Stp.of_move {B : Nat} {ι : Inj} {h h' : H} {w w' : World} {b : Nat} {L : Loc} (hr : R B ι h w) (hlt : h.n < 32760) (hb : b < h.n) (hn : h'.n = h.n + 1)
    (hat : ∀ b', b' < h.n → b' ≠ b → h'.at b' = h.at b') (hd : h'.at b = .dead) (hw : wrt (h.at b) = true) (hL : L.blk = (ι b).blk)
    (hk : ∀ k, k ≠ (ι b).blk → w'.heap[k]? = w.heap[k]?) (hs : w'.heap.size = w.heap.size) (ho : ObjR (setI ι h.n L) (h.n + 1) L w' (h'.at h.n))
    (os : w'.os = w.os) (tape : w'.tape = w.tape) (output : w'.output = w.output) : Stp B ι (setI ι h.n L) h h' w w' where
  le := by omega
  ext := fun b hb => setI_ne (by omega)
  rel := {
    n := by omega
    obj := fun b' hb' => by
      rw [hn]
      by_cases e : b' = h.n
      · subst e; rw [setI_same]; exact ho
      · by_cases e2 : b' = b
        · rw [e2, hd]; trivial
        · rw [hat b' (by omega) e2, setI_ne e]
          exact (hr.obj b' (by omega)).ext (by omega) (fun b hb => setI_ne (by omega)) fun hl => hk _ fun e' => e2 (hr.inj _ _ (by omega) hb hl (live_of_wrt hw) e')
    inj := fun b1 b2 h1 h2 l1 l2 e => by
      rw [hn] at h1 h2
      have f : ∀ b', b' < h.n + 1 → b' ≠ h.n → live (h'.at b') = true → b' ≠ b ∧ live (h.at b') = true := fun b' hb' hne hl => by
        by_cases e : b' = b
        · rw [e, hd] at hl; exact absurd hl (by simp [live])
        · rw [hat b' (by omega) e] at hl; exact ⟨e, hl⟩
      by_cases e1 : b1 = h.n <;> by_cases e2 : b2 = h.n
      · omega
      · obtain ⟨g1, g2⟩ := f b2 h2 e2 l2
        rw [e1, setI_same, setI_ne e2, hL] at e
        exact absurd (hr.inj _ _ hb (by omega) (live_of_wrt hw) g2 e).symm g1
      · obtain ⟨g1, g2⟩ := f b1 h1 e1 l1
        rw [e2, setI_same, setI_ne e1, hL] at e
        exact absurd (hr.inj _ _ (by omega) hb g2 (live_of_wrt hw) e) g1
      · rw [setI_ne e1, setI_ne e2] at e
        exact hr.inj b1 b2 (by omega) (by omega) (f b1 h1 e1 l1).2 (f b2 h2 e2 l2).2 e
    own := fun k ⟨b', hb', hw', e⟩ => by
      by_cases e' : b' = h.n
      · rw [e', setI_same, hL] at e; exact hr.own k ⟨b, hb, hw, e⟩
      · rw [setI_ne e'] at e
        by_cases e2 : b' = b
        · rw [e2, hd] at hw'; exact absurd hw' (by simp [wrt])
        · rw [hat b' (by omega) e2] at hw'
          exact hr.own k ⟨b', by omega, hw', e⟩
    sz := by have := hr.sz; omega
    lt := fun b' hb' hl => by
      by_cases e' : b' = h.n
      · rw [e', setI_same, hL, hs]; exact hr.lt b hb (live_of_wrt hw)
      · rw [setI_ne e', hs]
        by_cases e2 : b' = b
        · rw [e2, hd] at hl; exact absurd hl (by simp [live])
        · rw [hat b' (by omega) e2] at hl; exact hr.lt b' (by omega) hl }
  keep := fun k hk' hno => hk k fun e => hno ⟨b, hb, hw, e.symm⟩
  own := fun k hk' ⟨b', hb', hw', e⟩ => by
    by_cases e' : b' = h.n
    · rw [e', setI_same, hL] at e; exact ⟨b, hb, hw, e⟩
    · rw [setI_ne e'] at e
      by_cases e2 : b' = b
      · rw [e2, hd] at hw'; exact absurd hw' (by simp [wrt])
      · rw [hat b' (by omega) e2] at hw'
        exact ⟨b', by omega, hw', e⟩
  os := os
  tape := tape
  output := output
  size := by omega
  fresh := fun b' hb' hl _ => by
    by_cases e' : b' = h.n
    · rw [e', setI_same, hL]; exact ⟨b, hb, live_of_wrt hw, rfl⟩
    · rw [setI_ne e']
      by_cases e2 : b' = b
      · rw [e2, hd] at hl; exact absurd hl (by simp [live])
      · rw [hat b' (by omega) e2] at hl
        exact ⟨b', by omega, hl, rfl⟩
end Go.Eng
