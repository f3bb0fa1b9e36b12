/- The abstract evaluator, soundness 7: copy, make, conversions, maps, what is built. -/
import Derived.Test.YtbbojdjgabdjmaaGreatDoorEngEff
import Derived.Laws.BytesString
namespace Go.Eng
open Go Go.RowKit

theorem repL_succ (n : Nat) (z : List AV) : repL (n + 1) z = z ++ repL n z := rfl
theorem repL_length (n : Nat) (z : List AV) : (repL n z).length = n * z.length := by
  induction n with
  | zero => simp [show repL 0 z = [] from rfl]
  | succ n ih => rw [repL_succ, List.length_append, ih, Nat.add_mul]; omega
theorem repL_get (n : Nat) (z : List AV) (i : Nat) (hi : i < n * z.length) : (repL n z)[i]? = z[i % z.length]? := by
  induction n generalizing i with
  | zero => simp at hi
  | succ n ih =>
    rw [repL_succ]
    by_cases h : i < z.length
    · rw [List.getElem?_append_left h, Nat.mod_eq_of_lt h]
    · rw [List.getElem?_append_right (by omega), ih _ (by rw [Nat.add_mul] at hi; omega)]
      congr 1
      rw [← Nat.mod_eq_sub_mod (by omega)]
theorem repL_ok {ι : Inj} {n m : Nat} {z : List AV} (h : okL ι n z) : okL ι n (repL m z) := by
  induction m with
  | zero => trivial
  | succ m ih => rw [repL_succ]; exact okL_append.2 ⟨h, ih⟩
/-- The model's row of zero values. -/
theorem zeros_eq {ι : Inj} {z : AV} (n : Nat) (ht : ∀ vs, z ≠ .tup vs) (hz : 0 < n * (cellsV z).length) :
    ((Array.range (n * (cellsV z).length)).map fun i => (conc ι z).cells[i % (conc ι z).cells.size]!) = (concL ι (repL n (cellsV z))).toArray := by
  rw [conc_cells ι z ht]
  apply Array.ext
  · simp [repL_length]
  · intro i h1 h2
    simp only [Array.size_map, Array.size_range] at h1
    have hg := repL_get n (cellsV z) i h1
    have hpos : 0 < (cellsV z).length := by
      rcases Nat.eq_zero_or_pos (cellsV z).length with h | h
      · rw [h] at hz; omega
      · exact h
    have hm : i % (cellsV z).length < (cellsV z).length := Nat.mod_lt _ hpos
    have hl : i < (repL n (cellsV z)).length := by rw [repL_length]; exact h1
    rw [List.getElem?_eq_getElem hm, List.getElem?_eq_getElem hl] at hg
    injection hg with hg
    have hm' : i % (cellsV z).length < ((cellsV z).map (conc ι)).length := by simpa using hm
    simp only [Array.getElem_map, Array.getElem_range, List.size_toArray, concL_eq, List.getElem_toArray, List.getElem_map, hg]
    simp [List.length_map, hm]
theorem bytes_of {cs : List AV} {l : List Nat} (h : mapE (fun c => match c with | .int .u8 n => fN n.toNat fun n => chk (Nat.blt n 256) 87 (.ok n) | _ => .err [88]) cs = .ok l) :
    ∃ ns : List Int, cs = ns.map (AV.int .u8) ∧ l = ns.map Int.toNat ∧ ∀ b ∈ l, b < 256 := by
  induction cs generalizing l with
  | nil => injection h with h; subst h; exact ⟨[], rfl, rfl, fun b hb => by cases hb⟩
  | cons c cs ih =>
    rw [mapE_cons] at h
    obtain ⟨b, h1, h2⟩ := E.bd_eq_ok h
    obtain ⟨bs, h3, h4⟩ := E.bd_eq_ok h2
    injection h4 with h4; subst h4
    obtain ⟨ns, g1, g2, g3⟩ := ih h3
    split at h1
    · rename_i n
      rw [fN_eq] at h1
      obtain ⟨hb, h1⟩ := chk_ok h1
      injection h1 with h1
      subst h1
      refine ⟨n :: ns, by simp [g1], by simp [g2], fun b hb' => ?_⟩
      rcases List.mem_cons.1 hb' with rfl | hb'
      · exact blt_eq hb
      · exact g3 b hb'
    · cases h1
theorem foldl_push (ns : List Int) (s : ByteArray) : ns.foldl (fun r n => r.push (UInt8.ofNat n.toNat)) s = s ++ concStr (ns.map Int.toNat) := by
  induction ns generalizing s with
  | nil => apply ByteArray.ext; simp [concStr, ByteArray.data_append]
  | cons n ns ih =>
    rw [List.foldl_cons, ih]
    apply ByteArray.ext
    apply Array.ext'
    simp [concStr, ByteArray.data_append, ByteArray.data_push]
theorem mapE_vals {f : Nat × Operand → E (Nat × AV)} {l : List (Nat × Operand)} {r : List (Nat × AV)} (h : mapE f l = .ok r) : r.length = l.length := (mapE_ok h).1
section
variable {C : Cx} {P : Program} (hC : CxOk C P) {B : Nat} {ι : Inj} {h : H} {w : World} (hR : R B ι h w)
include hC hR
theorem makeSl_ok {t : TypeId} {l c v : AV} {h' : H} (e : makeSl C t l c h = .ok (v, h')) :
    ∃ ι' w', (Instr.makeSlice t (conc ι l) (conc ι c)).run P w = .ok (conc ι' v) w' ∧ Stp B ι ι' h h' w w' ∧ okV ι' h'.n v := by
  obtain ⟨u, h1, e1⟩ := E.bd_eq_ok e; clear e
  have hu := run_und hC h1 w
  split at e1
  case h_2 => cases e1
  rename TypeId => el
  obtain ⟨ln, h2, e2⟩ := E.bd_eq_ok e1; clear e1
  obtain ⟨cn, h3, e3⟩ := E.bd_eq_ok e2; clear e2
  obtain ⟨hb, e4⟩ := chk_ok e3; clear e3
  rw [Bool.and_eq_true, Bool.and_eq_true] at hb
  have b1 := of_decide_eq_true hb.1.1
  have b2 := of_decide_eq_true hb.1.2
  have b3 := of_decide_eq_true hb.2
  obtain ⟨ie, h4, e5⟩ := E.bd_eq_ok e4; clear e4
  obtain ⟨hby, e6⟩ := chk_ok e5; clear e5
  have hby := blt_eq hby
  obtain ⟨s, h5, e7⟩ := E.bd_eq_ok e6; clear e6
  obtain ⟨z, h6, e8⟩ := E.bd_eq_ok e7; clear e7
  rw [fN_eq, fN_eq] at e8
  obtain ⟨hzl, e9⟩ := chk_ok e8; clear e8
  have hzl := beq_eq hzl
  rw [fLs_eq] at e9
  obtain ⟨hh, k1, k2, k3, k4, k5⟩ := newO_ok e9
  injection k1 with k1
  injection k1 with k1 k1'
  subst k1 k1'
  obtain ⟨z1, z2, z3, z4⟩ := zeroV_ok hC h6 ι h.n
  have hzok : okL ι h.n (cellsV z) := by cases z <;> first | exact z2 | exact ⟨z2, trivial⟩
  have hS := new_cells (w := w) (op := false) (pu := true) hR k2 k3 k4 k5 (repL_ok (m := cn.toNat) hzok) [] (fun _ => rfl)
  refine ⟨_, _, ?_, hS, ⟨by omega, by simp only [okCap]; omega⟩⟩
  obtain ⟨kl, rfl⟩ := int1_ok h2
  obtain ⟨kc, rfl⟩ := int1_ok h3
  have w1 : IntKind.i64.wrap ln = ln := by unfold IntKind.wrap; simp [IntKind.bits, IntKind.signed]; omega
  have w2 : IntKind.i64.wrap cn = cn := by unfold IntKind.wrap; simp [IntKind.bits, IntKind.signed]; omega
  have hnb : ¬ ((ie.bytes : Int) * cn > 2 ^ 48) := by
    have h48 : (2 : Int) ^ 48 = 281474976710656 := by decide
    rw [h48]
    have g1 : (ie.bytes : Int) * cn ≤ 1000000 * 1000000 := by
      have : (ie.bytes : Int) ≤ 1000000 := by omega
      exact Int.mul_le_mul this (by omega) (by omega) (by omega)
    omega
  have hs48 : ¬ ((ie.bytes : Int) * cn > 281474976710656) := by simpa using hnb
  have hcond : ((decide (cn < 0) || decide ((ie.bytes : Int) * cn > 2 ^ 48)) || decide (ln < 0) || decide (ln > cn)) = false := by
    simp only [Bool.or_eq_false_iff, decide_eq_false_iff_not]
    exact ⟨⟨⟨by omega, hnb⟩, by omega⟩, by omega⟩
  unfold Instr.makeSlice
  simp only [conc, Sem.run_bind, hu, Result.andThen_ok, asInt, asIntOf, Sem.run_pure, run_info hC h4, w1, w2]
  rw [hcond]
  simp only [Bool.false_eq_true, if_false, Sem.run_bind, run_askRoom, Result.andThen_ok, run_sz hC h5]
  by_cases hn : cn.toNat * s = 0
  · have : repL cn.toNat (cellsV z) = [] := by
      have := repL_length cn.toNat (cellsV z)
      rw [hzl, hn] at this
      exact List.eq_nil_of_length_eq_zero this
    simp only [hn, if_true, this, concL, List.append_nil, concSl, setI_same, Nat.zero_add]
    have hr : ∀ f : Nat → Value, Array.map f (Array.range 0) = #[] := fun f => by simp
    simp only [Sem.run_bind, Sem.run_pure, Result.andThen_ok, hr, run_newRow]
  · simp only [hn, if_false, Sem.run_bind, z1, Result.andThen_ok, Sem.run_pure, run_newRow, concSl, setI_same, Nat.zero_add, List.append_nil]
    rw [← hzl] at hn ⊢
    rw [zeros_eq (ι := ι) cn.toNat z3 (by omega)]
theorem copyV_ok {ats : Array TypeId} {ty : TypeId} {d s v : AV} {h' : H} (hd : okV ι h.n d) (hs : okV ι h.n s) (e : copyV C ats.toList d s h = .ok (v, h')) :
    ∃ ι' w', (Builtin.copy_ ats ty #[conc ι d, conc ι s]).run P w = .ok (conc ι' v) w' ∧ Stp B ι ι' h h' w w' ∧ okV ι' h'.n v := by
  obtain ⟨t, h1, e1⟩ := E.bd_eq_ok e; clear e
  have h0 : ats[0]? = some t := by have := ofOpt_ok h1; rwa [nth_eq, Array.getElem?_toList] at this
  obtain ⟨u, h2, e2⟩ := E.bd_eq_ok e1; clear e1
  have hut := run_und hC h2
  split at e2
  case h_2 => cases e2
  rename TypeId => el
  obtain ⟨wd, h3, e3⟩ := E.bd_eq_ok e2; clear e2
  obtain ⟨dl, h4, e4⟩ := E.bd_eq_ok e3; clear e3
  obtain ⟨sl, h5, e5⟩ := E.bd_eq_ok e4; clear e4
  rw [fN_eq] at e5
  obtain ⟨cs, h6, e6⟩ := E.bd_eq_ok e5; clear e5
  obtain ⟨f1, f2, f3⟩ := srcCells_ok (P := P) hR hs h6
  have hl := lenV_ok (P := P) (ι := ι) h5 w
  have hsz := run_sz hC h3 w
  split at e6
  · injection e6 with e6
    injection e6 with e1 e2
    subst e1 e2
    injection h4 with h4
    subst h4
    refine ⟨ι, w, ?_, Stp.refl hR, trivial⟩
    unfold Builtin.copy_
    have hm : sl.min 0 = 0 := Nat.min_zero sl
    rw [hm] at f1 f3
    have : cs = [] := by simpa using f3
    subst this
    simp only [h0, List.getElem?_toArray, List.getElem?_cons_zero, List.getElem?_cons_succ, Sem.run_bind, hut, Result.andThen_ok, conc, hl, hm, hsz, f1]
    rfl
  · rename_i b off zz len c
    injection h4 with h4
    subst h4
    have hdv : ∃ a cc, conc ι (.sl b off zz len c) = .slice (some a) len cc ∧ (0 < len → a = ⟨(ι b).blk, (ι b).off + off, none⟩) := by
      cases c with
      | kn c => exact ⟨_, _, rfl, fun _ => rfl⟩
      | op s' =>
        refine ⟨_, _, rfl, fun hlen => ?_⟩
        have hs0 : 0 < s' := hd.2.1
        have h0' : off + len * s' ≤ (ι b).cap := hd.2.2
        have : s' ≤ len * s' := Nat.le_mul_of_pos_left _ hlen
        have : ¬ ((ι b).cap - off) / s' = 0 := by
          have := Nat.div_pos (show s' ≤ (ι b).cap - off by omega) hs0
          omega
        rw [if_neg this]
      | zc s' =>
        have : len = 0 := hd.2.2
        subst this
        exact ⟨_, _, rfl, fun h => by omega⟩
    obtain ⟨a, cc, hda, haa⟩ := hdv
    by_cases hn : sl.min len = 0
    · rw [beq_t hn] at e6
      simp only [ite'_true] at e6
      injection e6 with e6
      injection e6 with e1 e2
      subst e1 e2
      refine ⟨ι, w, ?_, Stp.refl hR, trivial⟩
      rw [hn] at f1 f3
      have : cs = [] := by simpa using f3
      subst this
      unfold Builtin.copy_
      rw [hda]
      simp only [h0, List.getElem?_toArray, List.getElem?_cons_zero, List.getElem?_cons_succ, Sem.run_bind, hut, Result.andThen_ok, conc, hl, hn, hsz, f1]
      rfl
    · rw [beq_f hn] at e6
      simp only [ite'_false] at e6
      obtain ⟨hh, w', k1, k2, k3, k4, k5⟩ := storeN_ok (P := P) hR f2 e6
      injection k1 with k1
      injection k1 with k1 k1'
      subst k1 k1'
      refine ⟨ι, w', ?_, k4, trivial⟩
      have hlen : 0 < len := by
        rcases Nat.eq_zero_or_pos len with h | h
        · subst h; exact absurd (Nat.min_zero sl) hn
        · exact h
      unfold Builtin.copy_
      rw [hda, haa hlen]
      simp only [h0, List.getElem?_toArray, List.getElem?_cons_zero, List.getElem?_cons_succ, Sem.run_bind, hut, Result.andThen_ok, conc, hl, hsz, f1, k3]
      rfl
  · cases e6
theorem convV_ok {s t : TypeId} {x v : AV} {h' : H} (hx : okV ι h.n x) (e : convV C s t x h = .ok (v, h')) :
    ∃ ι' w', (convert s t (conc ι x)).run P w = .ok (conc ι' v) w' ∧ Stp B ι ι' h h' w w' ∧ okV ι' h'.n v := by
  obtain ⟨us, h1, e1⟩ := E.bd_eq_ok e; clear e
  obtain ⟨ud, h2, e2⟩ := E.bd_eq_ok e1; clear e1
  have r1 := run_und hC h1 w
  have r2 := run_und hC h2 w
  split at e2
  · obtain ⟨a, g1, g2⟩ := E.bd_eq_ok e2
    have g1 := mkI_ok g1
    injection g2 with g2
    injection g2 with g2 g3
    subst g2 g3 g1
    refine ⟨ι, w, ?_, Stp.refl hR, trivial⟩
    unfold convert
    simp only [Sem.run_bind, r1, r2, Result.andThen_ok, conc]
    rfl
  · injection e2 with e2
    injection e2 with e1 e2
    subst e1 e2
    refine ⟨ι, w, ?_, Stp.refl hR, hx⟩
    unfold convert
    simp only [Sem.run_bind, r1, r2, Result.andThen_ok, conc]
    cases us <;> rfl
  · rename_i el sx
    obtain ⟨ue, h3, e3⟩ := E.bd_eq_ok e2; clear e2
    have r3 := run_und hC h3 w
    split at e3
    case h_2 => cases e3
    obtain ⟨cs, h4, e4⟩ := E.bd_eq_ok e3; clear e3
    have hcs := bytes_cells h4
    obtain ⟨hh, k1, k2, k3, k4, k5⟩ := newO_ok e4
    rw [fN_eq] at k1
    injection k1 with k1
    injection k1 with k1 k1'
    subst k1 k1'
    let cap := (concStr sx).size + (w.tape w.drawn (.appendCap (concStr sx).size 0 el)) % (2 ^ 63 - (concStr sx).size)
    have hcap : (concStr sx).size ≤ cap := Nat.le_add_right _ _
    let arr : Array Value := ((concStr sx).data.map fun (b : UInt8) => Value.int .u8 (b.toNat : Int)) ++ Array.replicate (cap - (concStr sx).size) (Value.int .u8 0)
    have harr : arr.size = cap := by
      show (((concStr sx).data.map fun (b : UInt8) => Value.int .u8 (b.toNat : Int)) ++ Array.replicate (cap - (concStr sx).size) (Value.int .u8 0)).size = cap
      rw [Array.size_append, Array.size_map, Array.size_replicate]
      show (concStr sx).size + _ = cap
      omega
    let w1 := w.drew.alloc (.cells arr el)
    let w2 := w1.freeze { block := w.heap.size, off := arr.size } 1
    have hw1 : w1.heap[w.heap.size]? = some (.cells arr el (0, 0)) := alloc_new w.drew _
    have hw2 : w2.heap[w.heap.size]? = some (.cells arr el (arr.size, arr.size + 1)) := by
      show (w1.heap.modify _ _)[w.heap.size]? = _
      rw [Array.getElem?_modify, if_pos rfl, hw1]
      rfl
    have hrun : (Conv.stringToBytes el (concStr sx)).run P w = .ok (.slice (some ⟨w.heap.size, 0, none⟩) (concStr sx).size cap) w2 := by
      unfold Conv.stringToBytes
      simp only [Sem.run_bind, run_choose, Question.forced, Bool.false_eq_true, if_false, Result.andThen_ok, Question.cut, World.drew_eq, run_newRow, World.size_drew]
      unfold markStringish
      have hsh : w1.shape? w.heap.size = some (el, arr.size) := by simp only [World.shape?, hw1]
      simp only [Sem.run_bind, run_shape]
      rw [show (w.drew.alloc _).shape? w.heap.size = some (el, arr.size) from hsh]
      simp only [Result.andThen_ok, run_freeze, Sem.run_pure]
      rfl
    have hS : Stp B ι (setI ι h.n ⟨w.heap.size, 0, cap⟩) h hh w w2 := by
      refine Stp.of_new hR k2 k3 k5 rfl (fun k hk => ?_) ?_ ?_ rfl rfl rfl
      · show (w1.heap.modify _ _)[k]? = _
        rw [Array.getElem?_modify, if_neg (show w.heap.size ≠ k from Nat.ne_of_gt hk)]
        exact alloc_lt w.drew _ k hk
      · show (w1.heap.modify _ _).size = _
        rw [Array.size_modify]
        show (w.drew.heap.push _).size = _
        rw [Array.size_push]
        rfl
      · rw [k4]
        refine ⟨arr, arr.size, arr.size + 1, hw2, (by show 0 + cap ≤ arr.size; omega), ?_, (fun hc => by cases hc), fun i v hv => ?_, ?_, (fun hc => by cases hc), (fun _ i hi => ?_), (fun hc => by cases hc)⟩
        rotate_left 3
        · have hi : i < cap := hi
          show ¬ (arr.size ≤ 0 + i ∧ 0 + i < arr.size + 1)
          omega
        · show cs.length ≤ cap
          rw [hcs, List.length_map, ← concStr_size]; exact hcap
        · rw [hcs, List.getElem?_map] at hv
          obtain ⟨b, hb, rfl⟩ := Option.map_eq_some_iff.1 hv
          have hb256 : b < 256 := hx b (List.mem_of_getElem? hb)
          have hlt : i < sx.length := by
            rcases Nat.lt_or_ge i sx.length with h | h
            · exact h
            · rw [List.getElem?_eq_none h] at hb; cases hb
          show arr[0 + i]? = _
          rw [Nat.zero_add, Array.getElem?_append_left (by rw [Array.size_map]; show i < (concStr sx).size; rw [concStr_size]; exact hlt), Array.getElem?_map]
          have : (concStr sx).data[i]? = some (UInt8.ofNat b) := by simp [concStr, hb]
          rw [this]
          simp [conc, Nat.mod_eq_of_lt hb256]
        · rw [hcs, okL_iff]
          intro v hv
          obtain ⟨b, _, rfl⟩ := List.mem_map.1 hv
          trivial
    refine ⟨_, w2, ?_, hS, ⟨by omega, by decide, ?_⟩⟩
    · unfold convert
      simp only [Sem.run_bind, r1, r2, Result.andThen_ok, conc]
      cases us <;> (simp only [r3, Result.andThen_ok]; rw [hrun]; simp [concSl, concStr_size])
    · rw [setI_same]
      show 0 + sx.length * 1 ≤ cap
      rw [← concStr_size]; omega
  · rename TypeId => el
    obtain ⟨ue, h3, e3⟩ := E.bd_eq_ok e2; clear e2
    have r3 := run_und hC h3 w
    split at e3
    case h_2 => cases e3
    injection e3 with e3
    injection e3 with e1 e2
    subst e1 e2
    refine ⟨ι, w, ?_, Stp.refl hR, fun b hb => by cases hb⟩
    unfold convert
    simp only [Sem.run_bind, r1, r2, Result.andThen_ok, conc, r3]
    rfl
  · rename_i el b off zz len c
    obtain ⟨ue, h3, e3⟩ := E.bd_eq_ok e2; clear e2
    have r3 := run_und hC h3 w
    split at e3
    case h_2 => cases e3
    obtain ⟨cs, h4, e4⟩ := E.bd_eq_ok e3; clear e3
    obtain ⟨l, h5, e5⟩ := E.bd_eq_ok e4; clear e4
    injection e5 with e5
    injection e5 with e1 e2
    subst e1 e2
    obtain ⟨ns, n1, n2, n3⟩ := bytes_of h5
    refine ⟨ι, w, ?_, Stp.refl hR, n3⟩
    have hcv : ∃ a cc, conc ι (.sl b off zz len c) = .slice (some a) len cc ∧ (loadCells a len).run P w = .ok (ns.map (Value.int .u8)).toArray w := by
      have hmap : concL ι cs = ns.map (Value.int .u8) := by rw [n1, concL_eq, List.map_map]; rfl
      by_cases hl0 : len = 0
      · rw [beq_t hl0] at h4
        simp only [ite'_true] at h4
        injection h4 with h4; subst h4
        subst hl0
        have : ns = [] := by simpa using n1.symm
        subst this
        cases c <;> exact ⟨_, _, rfl, rfl⟩
      · rw [beq_f hl0] at h4
        simp only [ite'_false] at h4
        obtain ⟨g1, g2, g3, _⟩ := loadN_ok (P := P) hR h4
        rw [hmap] at g1
        cases c with
        | kn c => exact ⟨_, _, rfl, g1⟩
        | op s' =>
          have hs0 : 0 < s' := hx.2.1
          have h0' : off + len * s' ≤ (ι b).cap := hx.2.2
          have : s' ≤ len * s' := Nat.le_mul_of_pos_left _ (by omega)
          have : ¬ ((ι b).cap - off) / s' = 0 := by
            have := Nat.div_pos (show s' ≤ (ι b).cap - off by omega) hs0
            omega
          refine ⟨_, _, rfl, ?_⟩
          rw [if_neg this]
          exact g1
        | zc s' => exact absurd hx.2.2 hl0
    obtain ⟨a, cc, hda, hload⟩ := hcv
    rw [hda, run_convert_bytes_string w s t el _ _ _ (und_ok hC h1) (und_ok hC h3) (und_ok hC h2), run_bytesToString w a len cc ns hload, foldl_push, n2]
    congr 2
  · cases e2
end
end Go.Eng
