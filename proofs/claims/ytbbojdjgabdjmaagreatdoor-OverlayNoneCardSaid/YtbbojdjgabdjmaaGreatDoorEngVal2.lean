/- The abstract evaluator, soundness 4: slices, indexes, fields, lookups: what only looks. -/
import Derived.Test.YtbbojdjgabdjmaaGreatDoorEngVal
namespace Go.Eng
open Go Go.RowKit

theorem sub_mul_div' {x s l : Nat} (hs : 0 < s) (h : l * s ≤ x) : (x - l * s) / s = x / s - l := by
  obtain ⟨y, rfl⟩ : ∃ y, x = y + l * s := ⟨x - l * s, by omega⟩
  rw [Nat.add_sub_cancel, Nat.add_mul_div_right _ _ hs, Nat.add_sub_cancel]
theorem int1_ok {x : AV} {i : Int} (h : int1 x = .ok i) : ∃ k, x = .int k i := by
  unfold int1 at h; split at h
  · injection h with h; subst h; exact ⟨_, rfl⟩
  · cases h
theorem asIntOf_ok {P : Program} {ι : Inj} {x : AV} {i : Int} (h : int1 x = .ok i) (w : World) : ∃ k, (asIntOf (conc ι x)).run P w = .ok (k, i) w := by
  obtain ⟨k, rfl⟩ := int1_ok h
  exact ⟨k, rfl⟩
theorem bound_ok {P : Program} {ι : Inj} {x : AV} {y r : Nat} (h : bound x y = .ok r) (w : World) (code : BoundsCode) : (Instr.sliceBound (conc ι x) y code).run P w = .ok r w ∧ r ≤ y := by
  obtain ⟨i, h1, h⟩ := E.bd_eq_ok h
  obtain ⟨hc, h⟩ := chk_ok h
  rw [fN_eq] at h
  injection h with h
  rw [Bool.and_eq_true] at hc
  have c1 := of_decide_eq_true hc.1
  have c2 := of_decide_eq_true hc.2
  obtain ⟨k, hk⟩ := asIntOf_ok (P := P) (ι := ι) h1 w
  unfold Instr.sliceBound
  simp only [Sem.run_bind, hk, Result.andThen_ok, c1, c2, and_self, if_true, Sem.run_pure, h]
  exact ⟨trivial, by omega⟩
/-- The three bounds of a slice expression: as the abstract ones, where the capacity is known, or none is asked for and the upper bound lies within what is known. -/
theorem bounds_ok {P : Program} {ι : Inj} {lo hi mx : Option AV} {len cap m hh l : Nat} {b : Bool} (w : World) (h1 : obound mx cap cap = .ok m) (h2 : obound hi len m = .ok hh) (h3 : obound lo 0 hh = .ok l) (hx : hi = none → mx = none) :
    (Instr.sliceBounds b len cap (lo.map (conc ι)) (hi.map (conc ι)) (mx.map (conc ι))).run P w = .ok (l, hh, m) w := by
  unfold Instr.sliceBounds
  cases mx with
  | none =>
    injection h1 with h1; subst h1
    cases hi with
    | none =>
      injection h2 with h2; subst h2
      cases lo with
      | none => injection h3 with h3; subst h3; simp
      | some lo => simp [(bound_ok (P := P) (ι := ι) h3 w _).1]
    | some hi =>
      have g2 := fun c => (bound_ok (P := P) (ι := ι) (show bound hi cap = .ok hh from h2) w c).1
      cases lo with
      | none => injection h3 with h3; subst h3; simp [g2]
      | some lo => simp [g2, (bound_ok (P := P) (ι := ι) h3 w _).1]
  | some mx =>
    have g1 := fun c => (bound_ok (P := P) (ι := ι) (show bound mx cap = .ok m from h1) w c).1
    cases hi with
    | none => exact absurd (hx rfl) (by simp)
    | some hi =>
      have g2 := fun c => (bound_ok (P := P) (ι := ι) (show bound hi m = .ok hh from h2) w c).1
      cases lo with
      | none => injection h3 with h3; subst h3; simp [g1, g2]
      | some lo => simp [g1, g2, (bound_ok (P := P) (ι := ι) h3 w _).1]
theorem bound_mono {x : AV} {y y' r : Nat} (h : bound x y = .ok r) (hy : y ≤ y') : bound x y' = .ok r := by
  obtain ⟨i, h1, h⟩ := E.bd_eq_ok h
  obtain ⟨hc, h⟩ := chk_ok h
  rw [Bool.and_eq_true] at hc
  have c1 := of_decide_eq_true hc.1
  have c2 := of_decide_eq_true hc.2
  unfold bound
  rw [h1, E.bd_ok]
  have : (decide (0 ≤ i) && decide (i ≤ (y' : Int))) = true := by
    rw [Bool.and_eq_true]; exact ⟨decide_eq_true c1, decide_eq_true (by omega)⟩
  rw [this]
  exact h
theorem obound_mono {x : Option AV} {d y y' r : Nat} (h : obound x d y = .ok r) (hy : y ≤ y') : obound x d y' = .ok r := by
  cases x with
  | none => exact h
  | some x => exact bound_mono (show bound x y = .ok r from h) hy
theorem obound_le {x : Option AV} {d y r : Nat} (h : obound x d y = .ok r) (hd : d ≤ y) : r ≤ y := by
  cases x with
  | none => injection h with h; omega
  | some x =>
    obtain ⟨i, _, h⟩ := E.bd_eq_ok (show bound x y = .ok r from h)
    obtain ⟨hc, h⟩ := chk_ok h
    rw [fN_eq] at h
    injection h with h
    rw [Bool.and_eq_true] at hc
    have c1 := of_decide_eq_true hc.1
    have c2 := of_decide_eq_true hc.2
    omega
section
variable {C : Cx} {P : Program} (hC : CxOk C P) {B : Nat} {ι : Inj} {h : H} {w : World} (hR : R B ι h w)
include hC
theorem idxAddr_ok {t : TypeId} {x i v : AV} (hx : okV ι h.n x) (e : idxAddr C t x i = .ok v) : (Instr.indexAt t (conc ι x) (conc ι i)).run P w = .ok (conc ι v) w ∧ okV ι h.n v := by
  obtain ⟨i', h1, e⟩ := E.bd_eq_ok e
  obtain ⟨u, h2, e⟩ := E.bd_eq_ok e
  obtain ⟨k, hk⟩ := asIntOf_ok (P := P) (ι := ι) h1 w
  have hu := run_und hC h2 w
  split at e
  · obtain ⟨hc, e⟩ := chk_ok e
    rw [Bool.and_eq_true] at hc
    have c1 := of_decide_eq_true hc.1
    have c2 := of_decide_eq_true hc.2
    obtain ⟨s, h3, e⟩ := E.bd_eq_ok e
    rw [fN_eq] at e
    injection e with e; subst e
    refine ⟨?_, hx⟩
    simp [Instr.indexAt, hk, hu, conc, Instr.sureAddr, c1, c2, run_sz hC h3, add_none, Nat.add_assoc]
  · rename_i e' b off z len c _ _
    obtain ⟨hc, e⟩ := chk_ok e
    rw [Bool.and_eq_true] at hc
    have c1 := of_decide_eq_true hc.1
    have c2 := of_decide_eq_true hc.2
    obtain ⟨s, h3, e⟩ := E.bd_eq_ok e
    rw [fN_eq] at e
    injection e with e; subst e
    refine ⟨?_, hx.1⟩
    have hcs : conc ι (.sl b off z len c) = .slice (some ⟨(ι b).blk, (ι b).off + off, none⟩) len (match c with | .kn c => c | .op s => ((ι b).cap - off) / s | .zc _ => 0) := by
      cases c with
      | kn c => rfl
      | op s' =>
        have hk := hx.2
        have : ¬ ((ι b).cap - off) / s' = 0 := by
          have hs : 0 < s' := hk.1
          have h0 : off + len * s' ≤ (ι b).cap := hk.2
          have hl : 1 ≤ len := by omega
          have : s' ≤ len * s' := Nat.le_mul_of_pos_left _ hl
          have := Nat.div_pos (show s' ≤ (ι b).cap - off by omega) hs
          omega
        simp [conc, concSl, this]
      | zc s' => exact absurd hx.2.2 (by omega)
    rw [hcs]
    simp [Instr.indexAt, hk, hu, conc, c1, c2, run_sz hC h3, add_none, Nat.add_assoc]
  · cases e
theorem idxV_ok {t : TypeId} {x i v : AV} (hx : okV ι h.n x) (e : idxV C t x i = .ok v) : (Instr.index t (conc ι x) (conc ι i)).run P w = .ok (conc ι v) w ∧ okV ι h.n v := by
  obtain ⟨i', h1, e⟩ := E.bd_eq_ok e
  obtain ⟨u, h2, e⟩ := E.bd_eq_ok e
  obtain ⟨k, hk⟩ := asIntOf_ok (P := P) (ι := ι) h1 w
  have hu := run_und hC h2 w
  split at e
  · obtain ⟨hc, e⟩ := chk_ok e
    rw [Bool.and_eq_true] at hc
    have c1 := of_decide_eq_true hc.1
    have c2 := of_decide_eq_true hc.2
    obtain ⟨s, h3, e⟩ := E.bd_eq_ok e
    obtain ⟨g1, g2⟩ := partV_ok hC (w := w) hx e
    refine ⟨?_, g2⟩
    simp only [Instr.index, Sem.run_bind, hk, Result.andThen_ok, hu, conc, c1, c2, and_self, if_true, run_sz hC h3]
    exact g1
  · rename_i s _ _
    obtain ⟨hc, e⟩ := chk_ok e
    have c1 := of_decide_eq_true hc
    obtain ⟨b, h3, e⟩ := E.bd_eq_ok e
    have e := mkI_ok e
    subst e
    have hb := ofOpt_ok h3
    rw [nth_eq] at hb
    refine ⟨?_, trivial⟩
    have hlt : i'.toNat < s.length := by
      rcases Nat.lt_or_ge i'.toNat s.length with h | h
      · exact h
      · rw [List.getElem?_eq_none h] at hb; cases hb
    have hm : b < 256 := hx b (List.mem_of_getElem? hb)
    have hs : (concStr s)[i'.toNat]? = some (UInt8.ofNat b) := by
      rw [getElem?_pos (concStr s) i'.toNat (by rw [concStr_size]; exact hlt)]
      congr 1
      rw [List.getElem?_eq_getElem hlt] at hb
      injection hb with hb
      show (List.map UInt8.ofNat s)[i'.toNat]'(by simpa using hlt) = UInt8.ofNat b
      rw [List.getElem_map, hb]
    simp only [Instr.index, Sem.run_bind, hk, Result.andThen_ok, hu, conc, c1, if_true, hs]
    simp [Nat.mod_eq_of_lt hm]
  · cases e
theorem fieldA_ok {t : TypeId} {x v : AV} {f : Nat} (hx : okV ι h.n x) (e : fieldA C t x f = .ok v) : (Instr.fieldAt t (conc ι x) f).run P w = .ok (conc ι v) w ∧ okV ι h.n v := by
  obtain ⟨u, h2, e⟩ := E.bd_eq_ok e
  have hu := run_und hC h2 w
  split at e
  · rename_i fs b o _
    obtain ⟨g, h3, e⟩ := E.bd_eq_ok e
    have hg := ofOpt_ok h3
    rw [nth_eq, Array.getElem?_toList] at hg
    obtain ⟨n, h4, e⟩ := E.bd_eq_ok e
    obtain ⟨hn, e⟩ := chk_ok e
    rw [fN_eq] at e
    injection e with e; subst e
    have hn' : n ≠ 0 := fun e => by subst e; simp at hn
    refine ⟨?_, hx⟩
    simp [Instr.fieldAt, hu, conc, hg, Instr.sureAddr, fieldPlace, run_sz hC h4, hn', add_none, Nat.add_assoc]
  · cases e
theorem fieldV_ok {t : TypeId} {x v : AV} {f : Nat} (hx : okV ι h.n x) (e : fieldV C t x f = .ok v) : (Instr.field t (conc ι x) f).run P w = .ok (conc ι v) w ∧ okV ι h.n v := by
  obtain ⟨u, h2, e⟩ := E.bd_eq_ok e
  have hu := run_und hC h2 w
  split at e
  · rename_i fs cs _
    obtain ⟨g, h3, e⟩ := E.bd_eq_ok e
    have hg := ofOpt_ok h3
    rw [nth_eq, Array.getElem?_toList] at hg
    obtain ⟨g1, g2⟩ := partV_ok hC (w := w) hx e
    refine ⟨?_, g2⟩
    simp only [Instr.field, Sem.run_bind, hu, Result.andThen_ok, conc, hg, asAgg, Sem.run_pure]
    exact g1
  · cases e
omit hC in
include hR in
theorem endOf_ok {b en : Nat} (e : endOf h b = .ok en) : b < h.n ∧ en ≤ (ι b).cap := by
  obtain ⟨cs, t, op, pu, ro, h1, h2, e⟩ := withCells_ok e
  rw [fN_eq] at e
  injection e with e
  have ho := hR.obj b h1
  rw [h2] at ho
  obtain ⟨_, _, _, _, _, h3, _⟩ := ho
  exact ⟨h1, by omega⟩
include hR in
theorem sliceV_ok {t : TypeId} {x v : AV} {lo hi mx : Option AV} (hx : okV ι h.n x) (hmx : hi = none → mx = none) (e : sliceV C t x lo hi mx h = .ok v) :
    (Instr.sliceAt t (conc ι x) (lo.map (conc ι)) (hi.map (conc ι)) (mx.map (conc ι))).run P w = .ok (conc ι v) w ∧ okV ι h.n v := by
  obtain ⟨u, h1, e⟩ := E.bd_eq_ok e
  have hu := run_und hC h1 w
  split at e
  · -- an array's address
    rename_i n el b o _
    obtain ⟨s, h2, e⟩ := E.bd_eq_ok e
    obtain ⟨m, h3, e⟩ := E.bd_eq_ok e
    obtain ⟨hh, h4, e⟩ := E.bd_eq_ok e
    obtain ⟨l, h5, e⟩ := E.bd_eq_ok e
    simp only [fN_eq] at e
    injection e with e; subst e
    have hm := obound_le h3 (Nat.le_refl _)
    have hb := bounds_ok (P := P) (ι := ι) (b := false) w h3 (show obound hi n m = .ok hh from h4) h5 hmx
    have hhm : hh ≤ m := by
      cases hi with
      | none => rw [hmx rfl] at h3; injection h3 with h3; injection h4 with h4; omega
      | some hi => exact (bound_ok (P := P) (ι := ι) (show bound hi m = .ok hh from h4) w .index).2
    refine ⟨?_, hx, by simp only [okCap]; omega⟩
    simp only [Instr.sliceAt, Sem.run_bind, hu, Result.andThen_ok, conc, Instr.sureAddr, Sem.run_pure, hb, run_sz hC h2, concSl]
    by_cases hml : m = l <;> simp [hml, add_none, Nat.add_assoc]
  · -- a string
    rename_i s _
    cases mx with
    | some _ => cases e
    | none =>
      obtain ⟨hh, h4, e⟩ := E.bd_eq_ok e
      obtain ⟨l, h5, e⟩ := E.bd_eq_ok e
      rw [dropN_eq] at e
      obtain ⟨hl, e⟩ := takeE_ok e
      injection e with e; subst e
      have hb := bounds_ok (P := P) (ι := ι) (b := false) (mx := none) (cap := s.length) w rfl h4 h5 (fun _ => rfl)
      have hhs := obound_le h4 (Nat.le_refl _)
      refine ⟨?_, fun b hb => hx b (List.mem_of_mem_drop (List.mem_of_mem_take hb))⟩
      simp only [Option.map_none] at hb ⊢
      simp only [Instr.sliceAt, Instr.slice, Sem.run_bind, hu, Result.andThen_ok, conc, concStr_size, hb, Option.isSome_none, Bool.false_eq_true, if_false, Sem.run_pure]
      congr 2
      apply ByteArray.ext
      rw [ByteArray.data_extract]
      apply Array.ext'
      simp [concStr, List.map_take, List.map_drop]
  · -- nil
    rename_i el _
    obtain ⟨s, h2, e⟩ := E.bd_eq_ok e
    obtain ⟨m, h3, e⟩ := E.bd_eq_ok e
    obtain ⟨hh, h4, e⟩ := E.bd_eq_ok e
    obtain ⟨l, h5, e⟩ := E.bd_eq_ok e
    injection e with e; subst e
    have hm := obound_le h3 (Nat.le_refl _)
    have hh0 := obound_le h4 (Nat.zero_le _)
    have hl0 := obound_le h5 (Nat.zero_le _)
    have hb := bounds_ok (P := P) (ι := ι) (b := true) (len := 0) w h3 h4 h5 hmx
    obtain rfl : m = 0 := by omega
    obtain rfl : hh = 0 := by omega
    obtain rfl : l = 0 := by omega
    refine ⟨?_, trivial⟩
    simp [Instr.sliceAt, Instr.slice, hu, conc, hb, run_sz hC h2]
  · -- a capacity that is known
    rename_i el b off z len c _
    obtain ⟨s, h2, e⟩ := E.bd_eq_ok e
    obtain ⟨m, h3, e⟩ := E.bd_eq_ok e
    obtain ⟨hh, h4, e⟩ := E.bd_eq_ok e
    obtain ⟨l, h5, e⟩ := E.bd_eq_ok e
    simp only [fN_eq] at e
    injection e with e; subst e
    have hlc : len ≤ c := hx.2
    have hb := bounds_ok (P := P) (ι := ι) (b := true) w h3 h4 h5 hmx
    have hhm : hh ≤ m := by
      cases hi with
      | none => rw [hmx rfl] at h3; injection h3 with h3; injection h4 with h4; omega
      | some hi => exact (bound_ok (P := P) (ι := ι) (show bound hi m = .ok hh from h4) w .index).2
    refine ⟨?_, hx.1, by simp only [okCap]; omega⟩
    simp only [Instr.sliceAt, Instr.slice, Sem.run_bind, hu, Result.andThen_ok, conc, concSl, Sem.run_pure, hb, run_sz hC h2]
    by_cases hml : m = l <;> simp [hml, add_none, Nat.add_assoc]
  · -- a capacity that is not
    rename_i el b off z len s' _
    obtain ⟨s, h2, e⟩ := E.bd_eq_ok e
    obtain ⟨hs, e2⟩ := chk_ok e
    have hs := beq_eq hs
    clear e
    subst hs
    obtain ⟨en, h3, e⟩ := E.bd_eq_ok e2
    obtain ⟨hbn, hen⟩ := endOf_ok hR h3
    obtain ⟨hb0, hs0, hcap⟩ := hx
    have hcc : (en - off) / s ≤ ((ι b).cap - off) / s := Nat.div_le_div_right (by omega)
    have hccs : ((ι b).cap - off) / s * s ≤ (ι b).cap - off := Nat.div_mul_le_self _ _
    have hlc : len ≤ ((ι b).cap - off) / s := by rw [Nat.le_div_iff_mul_le hs0]; omega
    cases mx with
    | none =>
      obtain ⟨hh, h4, e⟩ := E.bd_eq_ok e
      obtain ⟨l, h5, e⟩ := E.bd_eq_ok e
      have hb := bounds_ok (P := P) (ι := ι) (b := true) (mx := none) (cap := ((ι b).cap - off) / s) w rfl (obound_mono h4 hcc) h5 (fun _ => rfl)
      have hhc : hh ≤ ((ι b).cap - off) / s := obound_le (obound_mono h4 hcc) hlc
      have hlh := obound_le h5 (Nat.zero_le _)
      have hhs : hh * s ≤ ((ι b).cap - off) / s * s := Nat.mul_le_mul_right _ hhc
      simp only [fN_eq] at e
      by_cases hl : l = 0
      · subst hl
        simp only [beq_t, ite'_true] at e
        injection e with e; subst e
        refine ⟨?_, hb0, hs0, by omega⟩
        simp only [Option.map_none] at hb ⊢
        simp only [Instr.sliceAt, Instr.slice, Sem.run_bind, hu, Result.andThen_ok, conc, concSl, Sem.run_pure, hb, run_sz hC h2]
        by_cases hc0 : ((ι b).cap - off) / s = 0 <;> simp [hc0, add_none]
      · rw [beq_f hl] at e
        simp only [ite'_false] at e
        injection e with e; subst e
        have hls : l * s ≤ hh * s := Nat.mul_le_mul_right _ hlh
        have hsub : ((ι b).cap - (off + l * s)) / s = ((ι b).cap - off) / s - l := by
          rw [← Nat.sub_sub, sub_mul_div' hs0 (by omega)]
        refine ⟨?_, hb0, hs0, ?_⟩
        · simp only [Option.map_none] at hb ⊢
          simp only [Instr.sliceAt, Instr.slice, Sem.run_bind, hu, Result.andThen_ok, conc, concSl, Sem.run_pure, hb, run_sz hC h2, hsub]
          have hc0 : ¬ ((ι b).cap - off) / s = 0 := by omega
          by_cases hcl : ((ι b).cap - off) / s = l
          · simp [hcl, hl]
          · have : ¬ ((ι b).cap - off) / s - l = 0 := by omega
            simp [hc0, hcl, this, add_none, Nat.add_assoc]
        · rw [Nat.sub_mul]; omega
    | some mx =>
      obtain ⟨m, h4, e⟩ := E.bd_eq_ok e
      cases hi with
      | none => exact absurd (hmx rfl) (by simp)
      | some hi =>
        obtain ⟨hh, h5, e5⟩ := E.bd_eq_ok e
        obtain ⟨l, h6, e6⟩ := E.bd_eq_ok e5
        have hb := bounds_ok (P := P) (ι := ι) (b := true) (mx := some mx) (cap := ((ι b).cap - off) / s) (len := len) w (show obound (some mx) _ _ = .ok m from bound_mono h4 hcc) h5 h6 hmx
        have hmc := (bound_ok (P := P) (ι := ι) (bound_mono h4 hcc) w .index).2
        have hhm := (bound_ok (P := P) (ι := ι) (show bound hi m = .ok hh from h5) w .index).2
        have hlh := obound_le h6 (Nat.zero_le _)
        simp only [fN_eq] at e6
        by_cases hm0 : m = 0
        · subst hm0
          simp only [beq_t, ite'_true] at e6
          injection e6 with e6; subst e6
          obtain rfl : hh = 0 := by omega
          obtain rfl : l = 0 := by omega
          refine ⟨?_, hb0, hs0, rfl⟩
          simp only [Instr.sliceAt, Instr.slice, Sem.run_bind, hu, Result.andThen_ok, conc, concSl, Sem.run_pure, hb, run_sz hC h2]
          simp
        · rw [beq_f hm0] at e6
          simp only [ite'_false] at e6
          injection e6 with e6; subst e6
          refine ⟨?_, hb0, by simp only [okCap]; omega⟩
          have hc0 : ¬ ((ι b).cap - off) / s = 0 := by omega
          simp only [Instr.sliceAt, Instr.slice, Sem.run_bind, hu, Result.andThen_ok, conc, concSl, Sem.run_pure, hb, run_sz hC h2, hc0, if_false]
          by_cases hml : m = l <;> simp [hml, add_none, Nat.add_assoc]
  · cases e
end
end Go.Eng
