/- The abstract evaluator, soundness 6: append, copy, make, conversions. -/
import Derived.Test.YtbbojdjgabdjmaaGreatDoorEngApp
namespace Go.Eng
open Go Go.RowKit

theorem lenV_ok {P : Program} {ι : Inj} {x : AV} {n : Nat} (e : lenV x = .ok n) (w : World) : (Builtin.lenOf (conc ι x)).run P w = .ok n w := by
  unfold lenV at e
  split at e
  · injection e with e; subst e; rfl
  · injection e with e; subst e; rename_i c; cases c <;> rfl
  · rw [fN_eq] at e; injection e with e; subst e
    simp [conc, Builtin.lenOf, concStr_size]
  · cases e
theorem takeE_of {α : Type} {n : Nat} {l : List α} (h : n ≤ l.length) : takeE n l (fun l => E.ok l) = .ok (l.take n) := by
  suffices hk : ∀ (γ : Type) (k : List α → E γ), takeE n l k = k (l.take n) from hk _ _
  induction n generalizing l with
  | zero => intro γ k; rfl
  | succ n ih =>
    intro γ k
    cases l with
    | nil => simp at h
    | cons a l =>
      show takeE n l (fun t => k (a :: t)) = _
      rw [ih (by simpa using h)]
      rfl
theorem takeE_ok2 {α γ : Type} {n : Nat} {l : List α} {k : List α → E γ} {r : γ} (h : takeE n l k = .ok r) : n ≤ l.length ∧ k (l.take n) = .ok r := takeE_ok h
theorem bytes_cells {s : List Nat} {l : List AV} (h : mapE (fun b => E.ok (AV.int .u8 (Int.ofNat b))) s = .ok l) : l = s.map fun b => AV.int .u8 (Int.ofNat b) := by
  induction s generalizing l with
  | nil => injection h with h; exact h.symm
  | cons b s ih =>
    rw [mapE_cons, E.bd_ok] at h
    obtain ⟨bs, h1, h2⟩ := E.bd_eq_ok h
    injection h2 with h2
    rw [← h2, ih h1]
    rfl
section
variable {C : Cx} {P : Program} (hC : CxOk C P) {B : Nat} {ι : Inj} {h : H} {w : World} (hR : R B ι h w)
include hR
theorem srcCells_ok {s n : Nat} {x : AV} {l : List AV} (hx : okV ι h.n x) (e : srcCells s n x h = .ok l) :
    (Builtin.firstCells s n (conc ι x)).run P w = .ok (concL ι l).toArray w ∧ okL ι h.n l ∧ l.length = n * s := by
  unfold srcCells at e
  split at e
  · obtain ⟨hn, e⟩ := chk_ok e
    have hn := beq_eq hn
    injection e with e; subst e
    refine ⟨rfl, trivial, by simp [hn]⟩
  · rename_i b off z len c
    obtain ⟨hn, e⟩ := chk_ok e
    have hn := ble_eq hn
    by_cases h0 : n = 0
    · rw [beq_t h0] at e
      simp only [ite'_true] at e
      injection e with e; subst e
      refine ⟨?_, trivial, by simp [h0]⟩
      subst h0
      cases c <;> simp [conc, concSl, Builtin.firstCells, loadCells, loadCellsFrom, concL]
    · rw [beq_f h0] at e
      simp only [ite'_false] at e
      obtain ⟨g1, g2, g3, g4⟩ := loadN_ok (P := P) hR e
      refine ⟨?_, g2, g3⟩
      cases c with
      | kn c => exact g1
      | op s' =>
        have hs : 0 < s' := hx.2.1
        have h0' : off + len * s' ≤ (ι b).cap := hx.2.2
        have : s' ≤ len * s' := Nat.le_mul_of_pos_left _ (by omega)
        have : ¬ ((ι b).cap - off) / s' = 0 := by
          have := Nat.div_pos (show s' ≤ (ι b).cap - off by omega) hs
          omega
        simp only [conc, concSl, this, if_false, Builtin.firstCells]
        exact g1
      | zc s' => exact absurd hx.2.2 (by omega)
  · rename_i s'
    obtain ⟨hs, e⟩ := chk_ok e
    have hs := beq_eq hs
    obtain ⟨hn, e⟩ := takeE_ok e
    have hl := bytes_cells e
    refine ⟨?_, ?_, by rw [hl, hs]; simp [Nat.min_eq_left hn]⟩
    · simp only [conc, Builtin.firstCells, Sem.run_pure]
      congr 1
      apply Array.ext'
      rw [hl, concL_eq]
      simp only [Array.toList_map, ByteArray.data_extract, Array.toList_extract, concStr, List.map_map, List.map_take]
      simp only [Nat.sub_zero, List.drop_zero]
      simp only [← List.map_take, List.map_map]
      refine List.map_congr_left fun b hb => ?_
      have : b < 256 := hx b (List.mem_of_mem_take hb)
      simp [conc, Nat.mod_eq_of_lt this]
    · rw [hl, okL_iff]
      intro v hv
      obtain ⟨b, _, rfl⟩ := List.mem_map.1 hv
      trivial
  · cases e

theorem zOk_ok {i : TypeInfo} {w : Nat} (h : zOk i w = true) : ∃ z, i.zero = some z ∧ z.cells.size = w := by
  have _ := hR
  unfold zOk at h
  split at h
  · rename_i v hv; exact ⟨v, hv, beq_eq h⟩
  · cases h
include hC
/-- A slice value's address, where it has room. -/
theorem appendV_ok {ats : Array TypeId} {ty : TypeId} {s x v : AV} {h' : H} (hs : okV ι h.n s) (hx : okV ι h.n x) (e : appendV C ats.toList s x h = .ok (v, h')) :
    ∃ ι' w', (Builtin.append_ ats ty #[conc ι s, conc ι x]).run P w = .ok (conc ι' v) w' ∧ Stp B ι ι' h h' w w' ∧ okV ι' h'.n v := by
  obtain ⟨t, h1, ee⟩ := E.bd_eq_ok e; clear e; have e := ee; clear ee
  have h0 : ats[0]? = some t := by have := ofOpt_ok h1; rwa [nth_eq, Array.getElem?_toList] at this
  obtain ⟨u, h2, ee⟩ := E.bd_eq_ok e; clear e; have e := ee; clear ee
  have ht := und_ok hC h2
  split at e
  case h_2 => cases e
  rename TypeId => el
  obtain ⟨wd, h3, ee⟩ := E.bd_eq_ok e; clear e; have e := ee; clear ee
  obtain ⟨hw, ee⟩ := chk_ok e; clear e; have e := ee; clear ee
  have hw := blt_eq hw
  obtain ⟨ie, h4, ee⟩ := E.bd_eq_ok e; clear e; have e := ee; clear ee
  obtain ⟨hz, ee⟩ := chk_ok e; clear e; have e := ee; clear ee
  obtain ⟨z, hz0, hzs⟩ := zOk_ok hR hz
  have hi := info_ok hC h4
  have his : ie.size = wd := by obtain ⟨i', g1, g2⟩ := sz_ok hC h3; rw [hi] at g1; injection g1 with g1; rw [g1]; exact g2
  obtain ⟨bb, h5, ee⟩ := E.bd_eq_ok e; clear e; have e := ee; clear ee
  have ha : ∀ u, ats[1]? = some u → ∃ d, P.underlying u = some d ∧ ∀ k, d ≠ .int k := by
    intro u hu
    have g1 : nth ats.toList 1 = some u := by rw [nth_eq, Array.getElem?_toList]; exact hu
    rw [g1] at h5
    obtain ⟨d, g2, g3⟩ := E.bd_eq_ok h5
    refine ⟨d, und_ok hC g2, fun k hk => ?_⟩
    subst hk
    cases g3
  obtain ⟨n, h6, ee⟩ := E.bd_eq_ok e; clear e; have e := ee; clear ee
  obtain ⟨new, h7, ee⟩ := E.bd_eq_ok e; clear e; have e := ee; clear ee
  have hl := lenV_ok (P := P) (ι := ι) h6
  have hf := fun (w' : World) (hr : R B ι h w') => srcCells_ok (P := P) hr hx h7
  obtain ⟨hf1, hnew, hnl⟩ := hf w hR
  have hRd : R B ι h w.drew := hR.world rfl
  have hf2 := (hf w.drew hRd).1
  have hsz := run_sz hC h3 w
  -- a fresh row
  have fresh : ∀ (base : Option Addr) (len cap : Nat) (old : List AV) (pu : Bool) (h1 h'' : H), R B ι h1 w → h1.n = h.n → Stp B ι ι h h1 w w → cap < len + n → (Nat.blt (len + n) 1000000000000 && Nat.blt ((len + n) * ie.bytes) 1000000000000) = true →
      (Builtin.firstCells wd len (.slice base len cap)).run P w.drew = .ok (concL ι old).toArray w.drew → okL ι h.n old → old.length = len * wd → conc ι s = .slice base len cap →
      h.n < 32760 → h''.n = h1.n + 1 → h''.at h1.n = .cells (old ++ new) el true pu false → (∀ b, b < h1.n → h''.at b = h1.at b) →
      ∃ ι' w', (Builtin.append_ ats ty #[conc ι s, conc ι x]).run P w = .ok (conc ι' (.sl h1.n 0 0 (len + n) (.op wd))) w' ∧ Stp B ι ι' h h'' w w' ∧ okV ι' h''.n (.sl h1.n 0 0 (len + n) (.op wd)) := by
    intro base len cap old pu h1 h'' hR1 hn1 hS1 g1 g2 g4 g5 g6 g7 k2 k3 k4 k5
    rw [Bool.and_eq_true] at g2
    obtain ⟨c, c1, c2⟩ := run_append_fresh (P := P) (w := w) (ats := ats) (ty := ty) (base := base) (sLen := len) (sCap := cap) h0 ht hi hz0 ha (hl w) (by rw [his]; exact hf2) (by rw [his]; exact g4) g1 (blt_eq g2.1) (blt_eq g2.2)
    have hS := new_cells (w := w.drew) (op := true) (hR1.world rfl) (by omega) k3 k4 k5 (okL_append.2 ⟨by rw [hn1]; exact g5, by rw [hn1]; exact hnew⟩) (Builtin.zeroCells z.cells (c - (len + n))).toList (by simp)
    have hcap : (old ++ new).length + (Builtin.zeroCells z.cells (c - (len + n))).toList.length = c * wd := by
      rw [List.length_append, g6, hnl, Array.length_toList, size_zeroCells, hzs, ← Nat.add_mul, ← Nat.add_mul]
      congr 1; omega
    rw [hcap] at hS
    refine ⟨_, _, ?_, hS1.trans (hS.drew0 _), ?_⟩
    · rw [g7, c2]
      have hc0 : c * wd / wd = c := Nat.mul_div_cancel _ hw
      simp only [conc, concSl, setI_same, Nat.sub_zero, hc0, Nat.zero_add, ite_self, World.size_drew]
      congr 2
      rw [concL_append]
      congr 1
      apply Array.ext'
      simp
    · refine ⟨by rw [k3]; omega, hw, ?_⟩
      rw [setI_same]
      simp only [Nat.zero_add]
      exact Nat.mul_le_mul_right _ c1
  split at e
  · -- nil
    by_cases hn0 : n = 0
    · rw [beq_t hn0] at e
      simp only [ite'_true] at e
      injection e with e
      injection e with e1 e2
      subst e1 e2
      refine ⟨ι, w, ?_, Stp.refl hR, trivial⟩
      subst hn0
      have := run_append_fits (P := P) (w := w) (ats := ats) (ty := ty) (base := none) (sLen := 0) (sCap := 0) h0 ht hsz ha (hl w) hf1 (by omega)
      simpa [conc] using this
    · rw [beq_f hn0] at e
      simp only [ite'_false] at e
      obtain ⟨hsm, e⟩ := chk_ok e
      obtain ⟨hh, k1, k2, k3, k4, k5⟩ := newO_ok e
      injection k1 with k1
      injection k1 with k1 k1'
      subst k1 k1'
      have := fresh none 0 0 [] true h hh hR rfl (Stp.refl hR) (by omega) (by simpa using hsm) (by simp [Builtin.firstCells, concL]) trivial (by simp) rfl k2 k3 k4 k5
      simpa using this
  · -- a capacity that is known
    rename_i b off zz len c
    obtain ⟨hb0, hlc⟩ := hs
    by_cases hfit : len + n ≤ c
    · rw [ble_t hfit] at e
      simp only [ite'_true] at e
      obtain ⟨hh, w', k1, k2, k3, k4, k5⟩ := storeN_ok (P := P) hR hnew e
      rw [fN_eq] at k1
      injection k1 with k1
      injection k1 with k1 k1'
      subst k1 k1'
      refine ⟨ι, w', ?_, k4, by rw [k5]; exact hb0, hfit⟩
      have := run_append_fits (P := P) (w := w) (ats := ats) (ty := ty) (base := some ⟨(ι b).blk, (ι b).off + off, none⟩) (sLen := len) (sCap := c) h0 ht hsz ha (hl w) hf1 hfit
      simp only [conc, concSl]
      rw [this]
      simp only [add_none, Nat.add_assoc]
      rw [k3]
      rfl
    · rw [ble_f hfit] at e
      simp only [ite'_false] at e
      obtain ⟨hsm, e⟩ := chk_ok e
      obtain ⟨old, h8, e⟩ := E.bd_eq_ok e
      rw [fLs_eq] at e
      obtain ⟨hh, k1, k2, k3, k4, k5⟩ := newO_ok e
      rw [fN_eq] at k1
      injection k1 with k1
      injection k1 with k1 k1'
      subst k1 k1'
      have hold : (Builtin.firstCells wd len (.slice (some ⟨(ι b).blk, (ι b).off + off, none⟩) len c)).run P w.drew = .ok (concL ι old).toArray w.drew ∧ okL ι h.n old ∧ old.length = len * wd := by
        by_cases hl0 : len = 0
        · rw [beq_t hl0] at h8
          simp only [ite'_true] at h8
          injection h8 with h8; subst h8
          subst hl0
          exact ⟨by simp [Builtin.firstCells, loadCells, loadCellsFrom, concL], trivial, by simp⟩
        · rw [beq_f hl0] at h8
          simp only [ite'_false] at h8
          obtain ⟨g1, g2, g3, _⟩ := loadN_ok (P := P) hRd h8
          exact ⟨g1, g2, g3⟩
      exact fresh _ len c old true h hh hR rfl (Stp.refl hR) (by omega) hsm hold.1 hold.2.1 hold.2.2 rfl k2 k3 k4 k5
  · -- no capacity
    rename_i b off zz len w'
    obtain ⟨hb0, hs0, hlen⟩ := hs
    subst hlen
    by_cases hn0 : n = 0
    · rw [beq_t hn0] at e
      simp only [ite'_true] at e
      injection e with e
      injection e with e1 e2
      subst e1 e2
      refine ⟨ι, w, ?_, Stp.refl hR, hb0, hs0, rfl⟩
      subst hn0
      have hnew0 : new = [] := by simpa using hnl
      subst hnew0
      have := run_append_fits (P := P) (w := w) (ats := ats) (ty := ty) (base := some ⟨(ι b).blk, (ι b).off + (if ((ι b).cap - off) / w' = 0 then zz else off), none⟩) (sLen := 0) (sCap := 0) h0 ht hsz ha (hl w) hf1 (by omega)
      simp only [conc, concSl]
      rw [this]
      simp [concL, storeCells]
    · rw [beq_f hn0] at e
      simp only [ite'_false] at e
      obtain ⟨hsm, e⟩ := chk_ok e
      rw [Bool.and_eq_true] at hsm
      obtain ⟨hh, k1, k2, k3, k4, k5⟩ := newO_ok e
      injection k1 with k1
      injection k1 with k1 k1'
      subst k1 k1'
      have := fresh (some ⟨(ι b).blk, (ι b).off + (if ((ι b).cap - off) / w' = 0 then zz else off), none⟩) 0 0 [] true h hh hR rfl (Stp.refl hR) (by omega) (by simpa using hsm.1) (by simp [Builtin.firstCells, loadCells, loadCellsFrom, concL]) trivial (by simp) rfl k2 k3 k4 k5
      simpa using this
  · -- a capacity that is not known
    rename_i b off zz len w'
    obtain ⟨hb0, hs0, hcap⟩ := hs
    have hccs : ((ι b).cap - off) / w' * w' ≤ (ι b).cap - off := Nat.div_mul_le_self _ _
    have hlc : len ≤ ((ι b).cap - off) / w' := by rw [Nat.le_div_iff_mul_le hs0]; omega
    by_cases hn0 : n = 0
    · rw [beq_t hn0] at e
      simp only [ite'_true] at e
      injection e with e
      injection e with e1 e2
      subst e1 e2
      refine ⟨ι, w, ?_, Stp.refl hR, hb0, hs0, hcap⟩
      subst hn0
      have hnew0 : new = [] := by simpa using hnl
      subst hnew0
      have := run_append_fits (P := P) (w := w) (ats := ats) (ty := ty) (base := some ⟨(ι b).blk, (ι b).off + (if ((ι b).cap - off) / w' = 0 then zz else off), none⟩) (sLen := len) (sCap := ((ι b).cap - off) / w') h0 ht hsz ha (hl w) hf1 (by omega)
      simp only [conc, concSl]
      rw [this]
      simp [concL, storeCells]
    · rw [beq_f hn0] at e
      simp only [ite'_false] at e
      obtain ⟨hsm, e⟩ := chk_ok e
      rw [Bool.and_eq_true] at hsm
      have hww := beq_eq hsm.2
      obtain ⟨cs, t', op, pu, ro, q1, q2, e⟩ := withCells_ok e
      obtain ⟨hop, e⟩ := chk_ok e
      rw [Bool.and_eq_true] at hop
      rw [dropN_eq] at e
      obtain ⟨q3, e⟩ := takeE_ok e
      rw [fLs_eq] at e
      obtain ⟨h1, e1, _, r1, r2, r3⟩ := setO_ok hR.n e
      obtain ⟨hh, k1, k2, k3, k4, k5⟩ := newO_ok e1
      rw [fN_eq] at k1
      injection k1 with k1
      injection k1 with k1 k1'
      subst k1 k1'
      rw [Bool.and_eq_true, Bool.and_eq_true] at hop
      have hcl := hop.2
      have hro : ro = false := by simpa using hop.1.1.2
      have hte := beq_eq hop.1.2
      subst hro
      subst hte
      have hop1 : op = true := hop.1.1.1
      subst hop1
      subst hww
      have ho := hR.obj b hb0
      rw [q2] at ho
      obtain ⟨arr, lo, hi', a1, a2, a3, a4, a5, a6, a7, a8, a9⟩ := ho
      have hofl : off ≤ (ι b).cap := by omega
      have hold : okL ι h.n (List.take (len * wd) (List.drop off cs)) := okL_take _ (okL_drop _ a6)
      have hol : (List.take (len * wd) (List.drop off cs)).length = len * wd := by rw [List.length_take, Nat.min_eq_left q3]
      by_cases hfit : len + n ≤ ((ι b).cap - off) / wd
      · have hcc0 : ¬ ((ι b).cap - off) / wd = 0 := by omega
        have hfw : (len + n) * wd ≤ (ι b).cap - off := Nat.le_trans (Nat.mul_le_mul_right _ hfit) hccs
        rw [Nat.add_mul] at hfw
        have hrun := run_storeCells_cells (P := P) (ι b).blk ((ι b).off + off + len * wd) (concL ι new) 0 w (fun j hj => by
            rw [concL_length, hnl] at hj
            simp only [World.cell?, a1, Option.isSome_none, Bool.false_eq_true, if_false]
            rw [Array.getElem?_eq_getElem (by omega)]; rfl)
          (fun j hj => by
            rw [concL_length, hnl] at hj
            have hz := a8 rfl (off + len * wd + j) (by omega)
            simp only [World.frozen?, a1]
            simp only [Bool.and_eq_false_iff, decide_eq_false_iff_not]
            omega)
          (fun v hv => by
            rw [concL_eq] at hv
            obtain ⟨y, hy, rfl⟩ := List.mem_map.1 hv
            exact conc_isCell (allB_mem hcl y hy))
        have happ := run_append_fits (P := P) (w := w) (ats := ats) (ty := ty) (base := some ⟨(ι b).blk, (ι b).off + off, none⟩) (sLen := len) (sCap := ((ι b).cap - off) / wd) h0 ht hsz ha (hl w) hf1 hfit
        simp only [add_none] at happ
        rw [hrun] at happ
        obtain ⟨arr', g1, g2, g3⟩ := setCells_heap (ι b).blk (concL ι new) ((ι b).off + off + len * wd + 0) w arr _ (lo, hi') a1
        obtain ⟨o1, o2, o3⟩ := setCells_os (ι b).blk (concL ι new) ((ι b).off + off + len * wd + 0) w
        have hext : ∀ b', b' < h.n → setI ι h.n ⟨(ι b).blk, (ι b).off + off, (ι b).cap - off⟩ b' = ι b' := fun b' hb' => setI_ne (by omega)
        have hS : Stp B ι (setI ι h.n ⟨(ι b).blk, (ι b).off + off, (ι b).cap - off⟩) h hh w (w.setCells (ι b).blk ((ι b).off + off + len * wd + 0) (concL ι new)) := by
          refine Stp.of_move (b := b) hR (by omega) hb0 (by omega) (fun b' hb' hne => ?_) ?_ (by rw [q2]; rfl) rfl (fun k hk => setCells_other _ _ _ _ _ hk) (setCells_size _ _ _ _) ?_ o1 o2 o3
          · rw [k5 b' (by omega), r3 b' hb' hne]
          · rw [k5 b (by omega), r2]
          · rw [← r1, k4, r1]
            refine ⟨arr', lo, hi', g1, by show (ι b).off + off + ((ι b).cap - off) ≤ arr'.size; omega, by rw [List.length_append, hol, hnl]; exact hfw, fun hc => (by cases hc), fun i v hv => ?_, okL_ext (by omega) hext _ (okL_append.2 ⟨hold, hnew⟩), a7, fun _ i hi2 => ?_, fun hc => (by cases hc)⟩
            · rw [conc_ext hext v (okL_get (okL_append.2 ⟨hold, hnew⟩) hv), g3]
              simp only [concL_length, hnl]
              by_cases hi2 : i < len * wd
              · rw [if_neg (by omega), Nat.add_assoc]
                rw [List.getElem?_append_left (by omega), List.getElem?_take_of_lt hi2, List.getElem?_drop] at hv
                exact a5 _ v hv
              · have hi3 : i < len * wd + n * wd := by
                  rcases Nat.lt_or_ge i (len * wd + n * wd) with hlt | hge
                  · exact hlt
                  · rw [List.getElem?_eq_none (by rw [List.length_append, hol, hnl]; exact hge)] at hv; cases hv
                rw [if_pos (by omega)]
                rw [List.getElem?_append_right (by omega), hol] at hv
                rw [concL_eq, List.getElem?_map, show (ι b).off + off + i - ((ι b).off + off + len * wd + 0) = i - len * wd by omega, hv]
                rfl
            · have := a8 rfl (off + i) (by simp only at hi2; omega)
              simp only
              omega
        refine ⟨_, _, ?_, hS, ?_⟩
        · simp only [conc, concSl, hcc0, if_false]
          rw [happ, r1]
          simp only [Result.andThen_ok, setI_same, Nat.sub_zero, Nat.add_zero, hcc0, if_false]
        · refine ⟨by omega, hw, ?_⟩
          rw [r1, setI_same]
          simp only [Nat.zero_add]
          rw [Nat.add_mul]
          exact hfw
      · have hS1 : Stp B ι ι h h1 w w := Stp.of_set hR hb0 r1 (fun b' hb' hne => r3 b' hb' hne) (by rw [q2]; rfl) (fun _ _ => rfl) rfl (by rw [r2]; trivial) rfl rfl rfl
        have holdrun : (Builtin.firstCells wd len (.slice (some ⟨(ι b).blk, (ι b).off + (if ((ι b).cap - off) / wd = 0 then zz else off), none⟩) len (((ι b).cap - off) / wd))).run P w.drew = .ok (concL ι (List.take (len * wd) (List.drop off cs))).toArray w.drew := by
          by_cases hl0 : len = 0
          · subst hl0; simp [Builtin.firstCells, loadCells, loadCellsFrom, concL]
          · have hcc0 : ¬ ((ι b).cap - off) / wd = 0 := by omega
            rw [if_neg hcc0]
            have hload : loadN h b off (len * wd) = .ok (List.take (len * wd) (List.drop off cs)) := by
              unfold loadN withCells
              have : getO h b = .ok (h.at b) := by
                obtain ⟨tt, nn⟩ := h
                show chk (Nat.blt b nn) 10 (.ok (T5.get tt b)) = _
                rw [blt_t hb0]; rfl
              rw [this, E.bd_ok, q2]
              simp only
              rw [dropN_eq]
              exact takeE_of q3
            exact (loadN_ok (P := P) hRd hload).1
        obtain ⟨ι', w2, f1, f2, f3⟩ := fresh _ len (((ι b).cap - off) / wd) _ pu h1 hh hS1.rel r1 hS1 (by omega) hsm.1 holdrun hold hol rfl (by omega) k3 k4 k5
        exact ⟨ι', w2, f1, f2, f3⟩
  · cases e
end
end Go.Eng
