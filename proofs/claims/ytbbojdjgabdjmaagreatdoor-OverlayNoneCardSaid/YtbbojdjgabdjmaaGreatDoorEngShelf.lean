/- The abstract evaluator: functions of Go's library by the contracts of the kit's shelf (strings.Join, strings.Repeat). -/
import Derived.Test.YtbbojdjgabdjmaaGreatDoorEngExt
import Derived.Shelf.Strings.OnBuilder
import Derived.Shelf.Strings.Repeat
namespace Go.Eng
open Go Go.RowKit Go.Proofs Go.Shelf

/-- A world that has kept all that there was. -/
theorem Stp.of_below {B : Nat} {ι : Inj} {h : H} {w w' : World} (hR : R B ι h w) (hb : Below w.heap.size w w') : Stp B ι ι h h w w' where
  le := Nat.le_refl _
  ext := fun _ _ => rfl
  rel := {
    n := hR.n
    obj := fun b hb' => (hR.obj b hb').ext (Nat.le_refl _) (fun _ _ => rfl) fun hl => hb.block _ (hR.lt b hb' hl)
    inj := hR.inj
    own := hR.own
    sz := Nat.le_trans hR.sz hb.size
    lt := fun b hb' hl => Nat.lt_of_lt_of_le (hR.lt b hb' hl) hb.size }
  keep := fun k hk _ => hb.block k hk
  own := fun _ _ h => h
  os := hb.os
  tape := hb.tape
  output := hb.output
  size := hb.size
  fresh := fun b hb' hl _ => ⟨b, hb', hl, rfl⟩
theorem callsIn_FW {P : Program} {f : FuncId} {args : Array Value} {w : World} {Q : Ending → World → Prop} (h : Calls P f args w Q) (r : Option Nat) (n : Nat) : CallsIn (FW r) n P f args w Q := by
  cases r with
  | none => exact callsIn_wide.2 h
  | some l => exact CallsIn.inRound l (callsIn_wide.2 h)

noncomputable def strsE (l : List AV) : E (List (List Nat)) :=
  List.rec (motive := fun _ => E (List (List Nat))) (.ok []) (fun a _ ih => match a with
    | .str s => ih.bd fun r => .ok (s :: r)
    | _ => .err [310]) l
noncomputable def joinB (sep : List Nat) : List (List Nat) → List Nat
  | [] => []
  | x :: r => x ++ (r.map (sep ++ ·)).flatten
noncomputable def capS : ACap → Bool
  | .kn _ => true
  | .op s => Nat.beq s 1
  | .zc _ => false
noncomputable def strG (s : List Nat) (h : H) : E (AV × H) := fLs s fun s => chk (Nat.blt s.length 1000000) 311 <| .ok (.str s, h)
noncomputable def joinS (args : List AV) (h : H) : E (AV × H) := match args with
  | [.nils, .str _] => .ok (.str [], h)
  | [.sl b off _ len c, .str sep] => chk (capS c) 312 <| chk (Nat.blt 0 len) 313 <| chk (Nat.blt len 1000000) 314 <| (loadN h b off len).bd fun cs => (strsE cs).bd fun xs => strG (joinB sep xs) h
  | _ => .err [315]
noncomputable def repB (s : List Nat) (c : Nat) : List Nat := Nat.rec (motive := fun _ => List Nat) [] (fun _ ih => s ++ ih) c
noncomputable def repS (args : List AV) (h : H) : E (AV × H) := match args with
  | [.str s, .int .i64 (.ofNat c)] => chk (Nat.blt c 1000000) 316 <| strG (repB s c) h
  | _ => .err [317]
theorem strG_ok {s : List Nat} {h h' : H} {v : AV} (e : strG s h = .ok (v, h')) : s.length < 1000000 ∧ v = .str s ∧ h' = h := by
  unfold strG at e
  rw [fLs_eq] at e
  obtain ⟨hc, e⟩ := chk_ok e
  injection e with e
  injection e with e1 e2
  exact ⟨blt_eq hc, e1.symm, e2.symm⟩
theorem strsE_ok : ∀ (l : List AV) (xs : List (List Nat)), strsE l = .ok xs → l = xs.map AV.str := by
  intro l
  induction l with
  | nil => intro xs e; injection e with e; subst e; rfl
  | cons a l ih =>
    intro xs e
    cases a with
    | str s =>
      have e : (strsE l).bd (fun r => E.ok (s :: r)) = .ok xs := e
      obtain ⟨r, e1, e2⟩ := E.bd_eq_ok e
      injection e2 with e2
      subst e2
      rw [ih r e1]; rfl
    | _ => cases e
theorem joinB_map (sep : List Nat) (xs : List (List Nat)) : (joinB sep xs).map UInt8.ofNat = Lib.join (xs.map (·.map UInt8.ofNat)) (sep.map UInt8.ofNat) := by
  cases xs with
  | nil => rfl
  | cons x r =>
    rw [List.map_cons, Lib.join_cons]
    simp only [joinB, Lib.joinTail, List.map_append, List.map_flatten, List.map_map]
    congr 2
    apply List.map_congr_left
    intro y _
    simp only [Function.comp, List.map_append]
theorem joinB_lt {sep : List Nat} {xs : List (List Nat)} (hs : ∀ b ∈ sep, b < 256) (hx : ∀ x ∈ xs, ∀ b ∈ x, b < 256) : ∀ b ∈ joinB sep xs, b < 256 := by
  cases xs with
  | nil => intro b hb; cases hb
  | cons x r =>
    intro b hb
    rcases List.mem_append.1 hb with hb | hb
    · exact hx x (List.mem_cons_self ..) b hb
    · obtain ⟨l, hl, hb⟩ := List.mem_flatten.1 hb
      obtain ⟨y, hy, rfl⟩ := List.mem_map.1 hl
      rcases List.mem_append.1 hb with hb | hb
      · exact hs b hb
      · exact hx y (List.mem_cons_of_mem _ hy) b hb
theorem repB_map (s : List Nat) (c : Nat) : (repB s c).map UInt8.ofNat = Lib.repeatL (s.map UInt8.ofNat) c := by
  induction c with
  | zero => rfl
  | succ c ih =>
    show (s ++ repB s c).map UInt8.ofNat = s.map UInt8.ofNat ++ Lib.repeatL (s.map UInt8.ofNat) c
    rw [List.map_append, ih]
theorem repB_mem {s : List Nat} {c b : Nat} (h : b ∈ repB s c) : b ∈ s := by
  induction c with
  | zero => cases h
  | succ c ih => exact (List.mem_append.1 (show b ∈ s ++ repB s c from h)).elim id ih
section
variable {P : Program} {ρ : Ren}
theorem joinS_ok (L : Lays.n156 P ρ) (X : Builder.Extra P ρ) : GOk P (ρ.f 156) joinS := by
  intro args h v h' e B ι w hR _ hok
  have hent : ∀ args w, (callFunc (ρ.f 156) args).run P w = .ok (.enter (ρ.f 156) args) w := enters_of L.f156 (by kernel_rfl) rfl
  unfold joinS at e
  split at e
  case h_3 => cases e
  · rename_i s
    injection e with e
    injection e with e1 e2
    subst e1 e2
    refine .inl ⟨hent _ _, fun r n => callsIn_FW ((Any.strings_Join_none L X none 0 (concStr s) w).mono ?_) r n⟩
    rintro e w' ⟨rfl, rfl⟩
    exact ⟨ι, rfl, Stp.refl hR, fun b hb => by cases hb⟩
  · rename_i b off z len c sep
    obtain ⟨hc, e⟩ := chk_ok e
    obtain ⟨h0, e⟩ := chk_ok e
    obtain ⟨hl, e⟩ := chk_ok e
    obtain ⟨cs, e1, e⟩ := E.bd_eq_ok e
    obtain ⟨xs, e2, e⟩ := E.bd_eq_ok e
    obtain ⟨hlen, rfl, rfl⟩ := strG_ok e
    have h0 := blt_eq h0
    have hl := blt_eq hl
    have hcs := strsE_ok _ _ e2
    subst hcs
    obtain ⟨⟨hb, hcap⟩, hsep, _⟩ := hok
    unfold loadN at e1
    obtain ⟨cs, t, op, pu, ro, hb', hat, e1⟩ := withCells_ok e1
    rw [dropN_eq] at e1
    obtain ⟨hn, e1⟩ := takeE_ok e1
    injection e1 with e1
    have ho := hR.obj b hb
    rw [hat] at ho
    have hxl : xs.length = len := by
      have := congrArg List.length e1
      rw [List.length_take, Nat.min_eq_left hn, List.length_map] at this
      exact this.symm
    have hxat : ∀ (j : Nat) (x : List Nat), xs[j]? = some x → cs[off + j]? = some (.str x) := fun j x hx => by
      have hj : (xs.map AV.str)[j]? = some (.str x) := by rw [List.getElem?_map, hx]; rfl
      rw [← e1] at hj
      have hjl : j < len := by
        have := (List.getElem?_eq_some_iff.1 hx).1
        omega
      rw [List.getElem?_take, if_pos hjl, List.getElem?_drop] at hj
      exact hj
    have hcapv : ∃ cp, len ≤ cp ∧ concSl (ι b) off z len c = .slice (some ⟨(ι b).blk, (ι b).off + off, none⟩) len cp := by
      cases c with
      | kn c => exact ⟨c, hcap, rfl⟩
      | op s =>
        have hs : s = 1 := beq_eq hc
        subst hs
        have hcap := hcap.2
        refine ⟨((ι b).cap - off) / 1, by omega, ?_⟩
        simp only [concSl]
        rw [if_neg (by omega)]
      | zc s => cases hc
    obtain ⟨cp, hcp, hcv⟩ := hcapv
    have hargs : (concL ι [.sl b off z len c, .str sep]).toArray = #[.slice (some ⟨(ι b).blk, (ι b).off + off, none⟩) (xs.map concStr).length cp, .string (concStr sep)] := by
      simp only [concL, conc, hcv, List.length_map, hxl]
    have hmap : (xs.map concStr).map (·.data.toList) = xs.map (·.map UInt8.ofNat) := by
      rw [List.map_map]; rfl
    refine .inl ⟨hent _ _, fun r n => callsIn_FW ?_ r n⟩
    rw [hargs]
    refine (Any.strings_Join L X (ι b).blk ((ι b).off + off) cp (xs.map concStr) (concStr sep) w ?_ (hR.lt b hb (by rw [hat]; rfl)) (by rw [List.length_map]; omega) (by rw [List.length_map]; omega) ?_).mono ?_
    · intro j x hx
      rw [List.getElem?_map] at hx
      cases hx' : xs[j]? with
      | none => rw [hx'] at hx; cases hx
      | some y =>
        rw [hx'] at hx
        injection hx with hx
        subst hx
        have := cell_of ho (hxat j y hx')
        rw [← Nat.add_assoc] at this
        exact this
    · rw [hmap, concStr_list, ← joinB_map, List.length_map]
      omega
    · rintro e w' ⟨rfl, hbel⟩
      refine ⟨ι, ?_, Stp.of_below hR hbel, joinB_lt hsep fun x hx => ?_⟩
      · rw [hmap, concStr_list, ← joinB_map]; rfl
      · obtain ⟨j, hj⟩ := List.getElem?_of_mem hx
        obtain ⟨arr, lo, hi, q1, q2, q3, q4, q5, q6, _⟩ := ho
        exact okL_get q6 (hxat j x hj)
theorem repS_ok (L : Lays.n105 P ρ) (X : Builder.Extra P ρ) : GOk P (ρ.f 105) repS := by
  intro args h v h' e B ι w hR _ hok
  have hent : ∀ args w, (callFunc (ρ.f 105) args).run P w = .ok (.enter (ρ.f 105) args) w := enters_of L.f105 (by kernel_rfl) rfl
  unfold repS at e
  split at e
  case h_2 => cases e
  rename_i s c
  obtain ⟨hc, e⟩ := chk_ok e
  obtain ⟨hlen, rfl, rfl⟩ := strG_ok e
  have hc := blt_eq hc
  have hl : (concStr s).size * c = (repB s c).length := by
    have := congrArg List.length (repB_map s c)
    rw [List.length_map, Lib.repeatL_length, List.length_map] at this
    rw [this, Lib.size_eq, concStr_list, List.length_map, Nat.mul_comm]
  refine .inl ⟨hent _ _, fun r n => callsIn_FW ((Any.strings_Repeat L X (concStr s) c w (by omega) (by rw [hl]; omega)).mono ?_) r n⟩
  rintro e w' ⟨rfl, hbel⟩
  refine ⟨ι, ?_, Stp.of_below hR hbel, fun b hb => hok.1 b (repB_mem hb)⟩
  rw [concStr_list, ← repB_map]; rfl
end
end Go.Eng
