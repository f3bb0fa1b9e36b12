/- The abstract evaluator: a package-level variable of numbers that is laid before the run; a function of texts that reads it, worked out beforehand. -/
import Derived.Test.YtbbojdjgabdjmaaGreatDoorEngShelf
namespace Go.Eng
open Go Go.RowKit

noncomputable def keyV (n : Nat) : AV := .int .u32 (Int.ofNat n)
noncomputable def keysE (cs : List AV) : E (List Nat) := mapE (fun c => match c with | .int .u32 (.ofNat n) => fN n .ok | _ => .err [326]) cs
theorem keysE_ok {cs : List AV} {l : List Nat} (e : keysE cs = .ok l) : cs = l.map keyV := by
  induction cs generalizing l with
  | nil => injection e with e; subst e; rfl
  | cons c cs ih =>
    unfold keysE at e
    rw [mapE_cons] at e
    obtain ⟨n, h1, h2⟩ := E.bd_eq_ok e
    obtain ⟨ns, h3, h4⟩ := E.bd_eq_ok h2
    injection h4 with h4
    subst h4
    rw [ih h3]
    split at h1
    · rw [fN_eq] at h1
      injection h1 with h1
      subst h1
      rfl
    · cases h1
theorem conc_keys (ι ι' : Inj) (s : List Nat) {i : Nat} {v : AV} (h : (s.map keyV)[i]? = some v) : conc ι v = conc ι' v := by
  rw [List.getElem?_map] at h
  obtain ⟨n, _, rfl⟩ := Option.map_eq_some_iff.1 h
  rfl
theorem okL_keys (ι : Inj) (n : Nat) (s : List Nat) : okL ι n (s.map keyV) := by
  rw [okL_iff]
  intro v hv
  obtain ⟨k, _, rfl⟩ := List.mem_map.1 hv
  trivial
theorem conc_strs (ι ι' : Inj) (s : List (List Nat)) {i : Nat} {v : AV} (h : (s.map AV.str)[i]? = some v) : conc ι v = conc ι' v := by
  rw [List.getElem?_map] at h
  obtain ⟨n, _, rfl⟩ := Option.map_eq_some_iff.1 h
  rfl
theorem okL_strs (ι ι' : Inj) {n n' : Nat} {s : List (List Nat)} (h : okL ι n (s.map AV.str)) : okL ι' n' (s.map AV.str) := by
  rw [okL_iff] at h ⊢
  intro v hv
  have := h v hv
  obtain ⟨k, _, rfl⟩ := List.mem_map.1 hv
  exact this
theorem R_ro {ι : Inj} {h : H} {w : World} (hn : h.n ≤ 32760) (ho : ∀ b, b < h.n → live (h.at b) = true → wrt (h.at b) = false ∧ ObjR ι h.n (ι b) w (h.at b) ∧ (ι b).blk < w.heap.size)
    (hi : ∀ b b', b < h.n → b' < h.n → live (h.at b) = true → live (h.at b') = true → (ι b).blk = (ι b').blk → b = b') : R w.heap.size ι h w where
  n := hn
  obj := fun b hb => by
    cases hl : live (h.at b) with
    | true => exact (ho b hb hl).2.1
    | false =>
      cases hx : h.at b with
      | dead => trivial
      | _ => rw [hx] at hl; cases hl
  inj := hi
  own := fun k ⟨b, hb, hw, _⟩ => by
    cases hl : live (h.at b) with
    | true => rw [(ho b hb hl).1] at hw; cases hw
    | false =>
      cases hx : h.at b with
      | dead => rw [hx] at hw; cases hw
      | _ => rw [hx] at hl; cases hl
  sz := Nat.le_refl _
  lt := fun b hb hl => (ho b hb hl).2.2
/-- What the variable holds. -/
def KeysAt (w : World) (g : Nat) (ks : List Nat) (e : TypeId) : Prop :=
  ∃ arr lo hi, w.heap[g]? = some (.cells arr e (lo, hi)) ∧ ks.length ≤ arr.size ∧ ∀ (i n : Nat), ks[i]? = some n → arr[i]? = some (.int .u32 (Int.ofNat n))
noncomputable def outS (v : AV) : E (List Nat) := match v with | .str d => fLs d .ok | _ => .err [325]
noncomputable def memoH (C : Cx) (f : FuncId) (g : Nat) (ks : List Nat) (e eS : TypeId) (K : Nat) (xs : List (List Nat)) : E (List Nat) :=
  setO h0 g (.cells (ks.map keyV) e false false true) fun h => newO h (.cells (xs.map AV.str) eS true false true) fun b h => ((ev C (drawnV C) K).call f [.sl b 0 0 xs.length (.kn xs.length)] h).bd2 fun v _ => outS v
noncomputable def codeS (xs : List (List Nat)) : List Nat := List.rec (motive := fun _ => List Nat) [] (fun x _ ih => x.length :: x ++ ih) xs
noncomputable def findS (t : List (List (List Nat) × List Nat)) (s : List (List Nat)) : E (List Nat) :=
  List.rec (motive := fun _ => E (List Nat)) (.err (324 :: codeS s)) (fun p _ ih => Prod.rec (motive := fun _ => E (List Nat)) (fun a d => ite' (listEq (listEq Nat.beq) a s) (.ok d) ih) p) t
theorem findS_ok {t : List (List (List Nat) × List Nat)} {s : List (List Nat)} {d : List Nat} (e : findS t s = .ok d) : (s, d) ∈ t := by
  induction t with
  | nil => cases e
  | cons p t ih =>
    obtain ⟨a, d'⟩ := p
    have e : ite' (listEq (listEq Nat.beq) a s) (.ok d') (findS t s) = .ok d := e
    cases hb : listEq (listEq Nat.beq) a s with
    | true =>
      rw [hb, ite'_true] at e
      injection e with e
      rw [listEq_ok (fun a b h => listEq_ok (fun a b h => beq_eq h) _ _ h) _ _ hb, e]
      exact List.mem_cons_self ..
    | false => rw [hb, ite'_false] at e; exact List.mem_cons_of_mem _ (ih e)
noncomputable def hashG (g : Nat) (ks : List Nat) (eS : TypeId) (t : List (List (List Nat) × List Nat)) (args : List AV) (h : H) : E (AV × H) := match args with
  | [.sl b off z len (.kn s)] => chk (Nat.beq off 0 && Nat.beq z 0 && Nat.beq s len && !Nat.beq b g) 320 <| (getO h g).bd fun o => match o with
    | .cells kc _ op _ _ => chk (!op) 321 <| (keysE kc).bd fun ks' => chk (listEq Nat.beq ks' ks) 322 <| (getO h b).bd fun o2 => match o2 with
      | .cells cs e' _ _ _ => chk (Nat.beq e' eS && Nat.beq cs.length len) 323 <| (strsE cs).bd fun xs => (findS t xs).bd fun d => .ok (.str d, h)
      | _ => .err [327]
    | _ => .err [328]
  | _ => .err [329]
variable {C0 : Cx} {P : Program}
theorem hash_ok (hC : CxOk C0 P) (hg : GamOk C0 P) {f : FuncId} {fn : Func} (hf : C0.fn.get f = some fn) (hb : fn.body.isSome = true) {g : Nat} {ks : List Nat} {eS : TypeId} {K : Nat} {t : List (List (List Nat) × List Nat)} (hg4 : g < 4096)
    (hbyte : ∀ p ∈ t, ∀ b ∈ p.2, b < 256) (ht : ∀ e, ∀ p ∈ t, memoH C0 f g ks e eS K p.1 = .ok p.2) : GOk P f (hashG g ks eS t) := by
  intro args h v h' e0 B ι w hR hG hok
  unfold hashG at e0
  split at e0
  case h_2 => cases e0
  rename_i b off z len s
  obtain ⟨c1, e1⟩ := chk_ok e0
  simp only [Bool.and_eq_true, Bool.not_eq_true'] at c1
  obtain ⟨⟨⟨c2, c3⟩, c4⟩, hbg⟩ := c1
  have c2 := beq_eq c2
  have c3 := beq_eq c3
  have c4 := beq_eq c4
  subst c2 c3 c4
  have hbg : b ≠ g := fun hx => by rw [hx, beq_t rfl] at hbg; cases hbg
  obtain ⟨o, g1, e2⟩ := E.bd_eq_ok e1
  obtain ⟨g2, g3⟩ := getO_ok g1
  split at e2
  case h_2 => cases e2
  rename_i kc e op pu ro
  obtain ⟨c5, e3⟩ := chk_ok e2
  rw [Bool.not_eq_true'] at c5
  subst c5
  obtain ⟨ks', e4, e5⟩ := E.bd_eq_ok e3
  obtain ⟨c6, e6⟩ := chk_ok e5
  have hks := keysE_ok e4
  have c6 := listEq_ok (fun a b h => beq_eq h) _ _ c6
  subst c6 hks
  obtain ⟨o2, g4, e7⟩ := E.bd_eq_ok e6
  obtain ⟨g5, g6⟩ := getO_ok g4
  split at e7
  case h_2 => cases e7
  rename_i cs e' op' pu' ro'
  obtain ⟨c7, e8⟩ := chk_ok e7
  rw [Bool.and_eq_true] at c7
  have c8 := (beq_eq c7.1).symm
  have c9 := (beq_eq c7.2).symm
  subst c8 c9
  obtain ⟨xs, e9, e10⟩ := E.bd_eq_ok e8
  obtain ⟨d, e11, e12⟩ := E.bd_eq_ok e10
  injection e12 with e12
  injection e12 with k1 k2
  subst k1 k2
  have hcs := strsE_ok _ _ e9
  subst hcs
  have hmem := findS_ok e11
  have hm := ht e _ hmem
  unfold memoH at hm
  obtain ⟨h1, m1, m2, m3, m4, m5⟩ := setO_ok (by decide) hm
  obtain ⟨h2, m6, m7, m8, m9, m10⟩ := newO_ok m1
  obtain ⟨v1, h2', m11, m12⟩ := E.bd2_eq_ok m6
  have hn0 : (h0 : H).n = 4096 := rfl
  rw [hn0] at m3 m5
  rw [m3] at m8 m9 m10 m11
  have hok1 := hR.obj g g2
  rw [g3] at hok1
  have hok2 := hR.obj b g5
  rw [g6] at hok2
  obtain ⟨arr, lo, hi, q1, q2, q3, q4, q5, q6, q7, q8, q9⟩ := hok1
  obtain ⟨arr2, lo2, hi2, p1, p2, p3, p4, p5, p6, p7, p8, p9⟩ := hok2
  have hlt1 : (ι g).blk < w.heap.size := hR.lt g g2 (by rw [g3]; rfl)
  have hlt2 : (ι b).blk < w.heap.size := hR.lt b g5 (by rw [g6]; rfl)
  let ι1 : Inj := setI (setI ι0 g (ι g)) 4096 (ι b)
  have i1 : ι1 g = ι g := by show setI _ 4096 _ g = _; rw [setI_ne (by omega), setI_same]
  have i2 : ι1 4096 = ι b := setI_same _ _ _
  have hat : ∀ b', b' < h2.n → h2.at b' = .dead ∨ b' = g ∨ b' = 4096 := fun b' hb' => by
    by_cases hx : b' = 4096
    · exact .inr (.inr hx)
    · have hb4 : b' < 4096 := by omega
      by_cases hx2 : b' = g
      · exact .inr (.inl hx2)
      · exact .inl (by rw [m10 b' hb4, m5 b' hb4 hx2]; exact h0_at hb4)
  have hatg : h2.at g = .cells (ks'.map keyV) e false false true := by rw [m10 g hg4, m4]
  have R1 : R w.heap.size ι1 h2 w := R_ro (by omega) (fun b' hb' hl => by
      rcases hat b' hb' with hx | rfl | rfl
      · rw [hx] at hl; cases hl
      · rw [hatg, i1]
        exact ⟨rfl, ⟨arr, lo, hi, q1, q2, q3, q4, (fun i v hv => by rw [conc_keys ι1 ι _ hv]; exact q5 i v hv), okL_keys _ _ _, (fun hc => by cases hc), (fun hc => by cases hc), (fun _ hc => by cases hc)⟩, hlt1⟩
      · rw [m9, i2]
        exact ⟨rfl, ⟨arr2, lo2, hi2, p1, p2, p3, (fun hc => by cases hc), (fun i v hv => by rw [conc_strs ι1 ι _ hv]; exact p5 i v hv), okL_strs _ _ p6, (fun hc => by cases hc), (fun hc => by cases hc), (fun hc => by cases hc)⟩, hlt2⟩)
    (fun b1 b2 hb1 hb2 l1 l2 hee => by
      rcases hat b1 hb1 with hx | hx1 | hx1
      · rw [hx] at l1; cases l1
      all_goals
        rcases hat b2 hb2 with hx | hx2 | hx2
        · rw [hx] at l2; cases l2
      · rw [hx1, hx2]
      · rw [hx1, hx2, i1, i2] at hee
        exact absurd (hR.inj g b g2 g5 (by rw [g3]; rfl) (by rw [g6]; rfl) hee).symm hbg
      · rw [hx1, hx2, i1, i2] at hee
        exact absurd (hR.inj b g g5 g2 (by rw [g6]; rfl) (by rw [g3]; rfl) hee) hbg
      · rw [hx1, hx2])
  have hge := hG
  have G1 : Glob ι1 h2 := ⟨by omega, fun b' hb' => by
    by_cases hx : b' = g
    · subst hx; rw [i1]; exact hG.2 b' hb'
    · rw [show ι1 b' = ι0 b' from (setI_ne (by omega)).trans (setI_ne hx)]; exact ⟨rfl, rfl⟩⟩
  have hlen : (xs.map AV.str).length = xs.length := List.length_map _
  have hargs : okL ι1 h2.n [.sl 4096 0 0 xs.length (.kn xs.length)] := by
    exact ⟨⟨by omega, Nat.le_refl _⟩, trivial⟩
  have hconc : concL ι1 [.sl 4096 0 0 xs.length (.kn xs.length)] = concL ι [.sl b 0 0 (xs.map AV.str).length (.kn (xs.map AV.str).length)] := by
    simp only [concL, conc, concSl, i2, hlen]
  obtain ⟨_, hcall⟩ := ev_ok hC (drawnV_ok hC hC.mixed) hg (range_ok hC) K
  have hcr := hcall f _ h2 v1 h2' m11 w.heap.size ι1 w R1 G1 hargs
  unfold CallRes at hcr ⊢
  rw [hconc] at hcr
  unfold outS at m12
  split at m12
  case h_2 => cases m12
  rename_i d'
  rw [fLs_eq] at m12
  injection m12 with m12
  have m12 : d' = d := m12
  subst m12
  have key : ∀ e w', Ret w.heap.size ι1 h2 h2' w (.str d') e w' → Ret B ι h h w (.str d') e w' := by
    rintro e1 w' ⟨ι', rfl, hS, _⟩
    exact ⟨ι, rfl, Stp.of_below hR (hS.below R1), hbyte _ hmem⟩
  rcases hcr with ⟨r1, r2⟩ | ⟨ι', w', r1, _⟩
  · exact .inl ⟨r1, fun r n => (r2 r n).mono key⟩
  · rw [hC.call f fn hf hb] at r1
    cases r1
/-- A run that starts where the variable is laid. -/
theorem laid_ok (hC : CxOk C0 P) (hg : GamOk C0 P) {f : FuncId} {fn : Func} (hf : C0.fn.get f = some fn) (hb : fn.body.isSome = true) {g : Nat} {ks : List Nat} {e : TypeId} (hg4 : g < 4096)
    {K : Nat} {args : List AV} {v : AV} (hargs : ∀ ι, okL ι 4096 args) (e0 : (setO h0 g (.cells (ks.map keyV) e false false true) fun h => closedV ((ev C0 (drawnV C0) K).call f args h)) = .ok v) (w : World) (hk : KeysAt w g ks e) :
    ∃ ι1, Calls P f (concL ι1 args).toArray w fun e w' => ∃ ι', e = .returned (conc ι' v) ∧ Below w.heap.size w w' := by
  obtain ⟨h1, m1, m2, m3, m4, m5⟩ := setO_ok (by decide) e0
  obtain ⟨v1, h2, e1, e2⟩ := E.bd2_eq_ok m1
  injection e2 with e2
  subst e2
  have hn0 : (h0 : H).n = 4096 := rfl
  rw [hn0] at m3 m5
  obtain ⟨arr, lo, hi, q1, q2, q3⟩ := hk
  let ι1 : Inj := setI ι0 g ⟨g, 0, ks.length⟩
  have i1 : ι1 g = ⟨g, 0, ks.length⟩ := setI_same _ _ _
  have hat : ∀ b', b' < h1.n → h1.at b' = .dead ∨ b' = g := fun b' hb' => by
    by_cases hx2 : b' = g
    · exact .inr hx2
    · exact .inl (by rw [m5 b' (by omega) hx2]; exact h0_at (by omega))
  have hlt : g < w.heap.size := (Array.getElem?_eq_some_iff.1 q1).1
  have R1 : R w.heap.size ι1 h1 w := R_ro (by omega) (fun b' hb' hl => by
      rcases hat b' hb' with hx | rfl
      · rw [hx] at hl; cases hl
      · rw [m4, i1]
        refine ⟨rfl, ⟨arr, lo, hi, q1, by simpa using q2, by simp, by simp, (fun i v hv => ?_), okL_keys _ _ _, (fun hc => by cases hc), (fun hc => by cases hc), (fun _ hc => by cases hc)⟩, hlt⟩
        rw [List.getElem?_map] at hv
        obtain ⟨n, hn, rfl⟩ := Option.map_eq_some_iff.1 hv
        have := q3 i n hn
        rw [Nat.zero_add]
        exact this)
    (fun b1 b2 hb1 hb2 l1 l2 _ => by
      rcases hat b1 hb1 with hx | hx1
      · rw [hx] at l1; cases l1
      · rcases hat b2 hb2 with hx | hx2
        · rw [hx] at l2; cases l2
        · rw [hx1, hx2])
  have G1 : Glob ι1 h1 := ⟨by omega, fun b' hb' => by
    by_cases hx : b' = g
    · subst hx; rw [i1]; exact ⟨rfl, rfl⟩
    · rw [show ι1 b' = ι0 b' from setI_ne hx]; exact ⟨rfl, rfl⟩⟩
  obtain ⟨_, hcall⟩ := ev_ok hC (drawnV_ok hC hC.mixed) hg (range_ok hC) K
  rcases hcall f args h1 v1 h2 e1 w.heap.size ι1 w R1 G1 (by rw [m3]; exact hargs ι1) with ⟨_, h3⟩ | ⟨ι', w', h3, _⟩
  · refine ⟨ι1, ((h3 none 0).calls (fun k d hd => by cases hd)).mono fun e w' hret => ?_⟩
    obtain ⟨ι', rfl, hS, _⟩ := hret
    exact ⟨ι', rfl, hS.below R1⟩
  · rw [hC.call f fn hf hb] at h3
    cases h3
end Go.Eng
