/- The abstract evaluator: functions without a body that look at strings alone; contexts out of lists of known functions. -/
import Derived.Test.YtbbojdjgabdjmaaGreatDoorEngMemo
import Derived.Lib.Bytealg
namespace Go.Eng
open Go Go.RowKit

noncomputable def fiL (c : Nat) (s : List Nat) : Nat → E AV :=
  List.rec (motive := fun _ => Nat → E AV) (fun _ => .ok (.int .i64 (-1))) (fun a _ ih i => ite' (Nat.beq a c) (fN i fun i => .ok (.int .i64 (Int.ofNat i))) (fN (i + 1) fun i => nx (ih i))) s
noncomputable def cntL (c : Nat) (s : List Nat) : Nat → E AV :=
  List.rec (motive := fun _ => Nat → E AV) (fun n => fN n fun n => .ok (.int .i64 (Int.ofNat n))) (fun a _ ih n => ite' (Nat.beq a c) (fN (n + 1) fun n => nx (ih n)) (nx (ih n))) s
noncomputable def idxG (args : List AV) (h : H) : E (AV × H) := match args with
  | [.str s, .int .u8 (.ofNat c)] => chk (Nat.blt c 256) 303 <| (fiL c s 0).bd fun v => .ok (v, h)
  | _ => .err [300]
noncomputable def cntG (args : List AV) (h : H) : E (AV × H) := match args with
  | [.str s, .int .u8 (.ofNat c)] => chk (Nat.blt c 256) 304 <| (cntL c s 0).bd fun v => .ok (v, h)
  | _ => .err [301]
noncomputable def sameG (args : List AV) (h : H) : E (AV × H) := match args with
  | [v] => .ok (v, h)
  | _ => .err [302]
noncomputable def joinL (sep : List Nat) (l : List AV) : E (List Nat) :=
  List.rec (motive := fun _ => E (List Nat)) (.ok []) (fun a l ih => match a with
    | .str s => (match l with
      | [] => .ok s
      | _ => ih.bd fun r => fLs (s ++ sep ++ r) .ok)
    | _ => .err [305]) l
noncomputable def joinG (args : List AV) (h : H) : E (AV × H) := match args with
  | [.nils, .str _] => .ok (.str [], h)
  | [.sl b off _ len _, .str sep] => (ite' (Nat.beq len 0) (.ok []) (loadN h b off len)).bd fun cs => (joinL sep cs).bd fun s => .ok (.str s, h)
  | _ => .err [306]
theorem ofNat_eq {a c : Nat} (ha : a < 256) (hc : c < 256) : (UInt8.ofNat a == UInt8.ofNat c) = Nat.beq a c := by
  by_cases h : a = c
  · subst h; rw [beq_t rfl]; simp
  · rw [beq_f h]
    have : UInt8.ofNat a ≠ UInt8.ofNat c := fun e => h (by
      have := congrArg UInt8.toNat e
      simp only [UInt8.toNat_ofNat'] at this
      omega)
    simpa using this
theorem fiL_ok {c : Nat} (hc : c < 256) : ∀ (s : List Nat) (i : Nat) (v : AV), (∀ b ∈ s, b < 256) → fiL c s i = .ok v →
    v = .int .i64 (if Lib.indexByte (s.map UInt8.ofNat) (UInt8.ofNat c) = -1 then -1 else (i : Int) + Lib.indexByte (s.map UInt8.ofNat) (UInt8.ofNat c)) := by
  intro s
  induction s with
  | nil => intro i v _ e; injection e with e; subst e; rfl
  | cons a s ih =>
    intro i v hs e
    have e : ite' (Nat.beq a c) (fN i fun i => E.ok (AV.int .i64 (Int.ofNat i))) (fN (i + 1) fun i => nx (fiL c s i)) = .ok v := e
    have hac := ofNat_eq (hs a (List.mem_cons_self ..)) hc
    rw [List.map_cons]
    have hge := Lib.indexByte_ge (s.map UInt8.ofNat) (UInt8.ofNat c)
    cases hb : Nat.beq a c with
    | true =>
      rw [hb, ite'_true, fN_eq] at e
      injection e with e
      subst e
      have : Lib.indexByte (UInt8.ofNat a :: s.map UInt8.ofNat) (UInt8.ofNat c) = 0 := by unfold Lib.indexByte; rw [hac, hb]; rfl
      rw [this, if_neg (by decide)]
      simp
    | false =>
      rw [hb, ite'_false, fN_eq, nx_eq] at e
      have h1 := ih (i + 1) v (fun b hb => hs b (List.mem_cons_of_mem _ hb)) e
      rw [h1]
      have : Lib.indexByte (UInt8.ofNat a :: s.map UInt8.ofNat) (UInt8.ofNat c) = if Lib.indexByte (s.map UInt8.ofNat) (UInt8.ofNat c) == -1 then -1 else Lib.indexByte (s.map UInt8.ofNat) (UInt8.ofNat c) + 1 := by
        conv => lhs; unfold Lib.indexByte
        rw [hac, hb]; rfl
      rw [this]
      by_cases hm : Lib.indexByte (s.map UInt8.ofNat) (UInt8.ofNat c) = -1
      · simp [hm]
      · have hm' : (Lib.indexByte (s.map UInt8.ofNat) (UInt8.ofNat c) == -1) = false := by simpa using hm
        simp only [if_neg hm, hm', Bool.false_eq_true, if_false]
        rw [if_neg (by omega)]
        congr 1
        push_cast
        omega
theorem cntL_ok {c : Nat} (hc : c < 256) : ∀ (s : List Nat) (n : Nat) (v : AV), (∀ b ∈ s, b < 256) → cntL c s n = .ok v → v = .int .i64 ((n + Lib.countByte (s.map UInt8.ofNat) (UInt8.ofNat c) : Nat) : Int) := by
  intro s
  induction s with
  | nil =>
    intro n v _ e
    have e : fN n (fun n => E.ok (AV.int .i64 (Int.ofNat n))) = .ok v := e
    rw [fN_eq] at e
    injection e with e; subst e; rfl
  | cons a s ih =>
    intro n v hs e
    have e : ite' (Nat.beq a c) (fN (n + 1) fun n => nx (cntL c s n)) (nx (cntL c s n)) = .ok v := e
    have hac := ofNat_eq (hs a (List.mem_cons_self ..)) hc
    have hcnt : Lib.countByte ((a :: s).map UInt8.ofNat) (UInt8.ofNat c) = Lib.countByte (s.map UInt8.ofNat) (UInt8.ofNat c) + if Nat.beq a c = true then 1 else 0 := by
      unfold Lib.countByte
      rw [List.map_cons, List.count_cons, hac]
    rw [hcnt]
    cases hb : Nat.beq a c with
    | true =>
      rw [hb, ite'_true, fN_eq, nx_eq] at e
      rw [ih (n + 1) v (fun b hb => hs b (List.mem_cons_of_mem _ hb)) e]
      congr 2
      simp only [if_true]
      omega
    | false =>
      rw [hb, ite'_false, nx_eq] at e
      rw [ih n v (fun b hb => hs b (List.mem_cons_of_mem _ hb)) e]
      congr 2

def GOk (P : Program) (f : FuncId) (g : List AV → H → E (AV × H)) : Prop :=
  ∀ args h v h', g args h = .ok (v, h') → ∀ B ι w, R B ι h w → Glob ι h → okL ι h.n args → CallRes P B ι h h' w f args v
theorem concStr_list {s : List Nat} : (concStr s).data.toList = s.map UInt8.ofNat := rfl
theorem byte_of {c : Nat} : (Int.ofNat c).toNat.toUInt8 = UInt8.ofNat c := rfl
section
variable {P : Program} {f : FuncId} {fn : Func} (hf : P.funcs[f]? = some fn) (hname : (fn.name == "runtime.NumGoroutine") = false) (hb : fn.body.isNone = true) (hn : (Extern.findNext fn).isNone = true)
include hf hname hb hn
theorem idxG_ok (he : Extern.find fn = some Extern.BytealgIndexByte.indexByte) : GOk P f idxG := by
  intro args h v h' e B ι w hR _ hok
  unfold idxG at e
  split at e
  case h_2 => cases e
  rename_i s c
  obtain ⟨hc, e⟩ := chk_ok e
  have hc := blt_eq hc
  obtain ⟨v', h1, h2⟩ := E.bd_eq_ok e
  injection h2 with h2
  injection h2 with h2 h3
  subst h2 h3
  have h1 := fiL_ok hc s 0 _ hok.1 h1
  refine .inr ⟨ι, w, ?_, Stp.refl hR, by rw [h1]; trivial⟩
  rw [run_callFunc_extern hf hname hb (by simpa using hn) he]
  show Result.andThen ((Extern.BytealgIndexByte.indexByte #[.string (concStr s), .int .u8 (Int.ofNat c)]).run P w) _ = _
  rw [Lib.run_indexByteString, h1, concStr_list, byte_of]
  simp only [Result.andThen, conc]
  congr 2
  by_cases hm : Lib.indexByte (s.map UInt8.ofNat) (UInt8.ofNat c) = -1
  · rw [if_pos hm, hm]
  · rw [if_neg hm]; simp
theorem cntG_ok (he : Extern.find fn = some Extern.BytealgCount.count) : GOk P f cntG := by
  intro args h v h' e B ι w hR _ hok
  unfold cntG at e
  split at e
  case h_2 => cases e
  rename_i s c
  obtain ⟨hc, e⟩ := chk_ok e
  have hc := blt_eq hc
  obtain ⟨v', h1, h2⟩ := E.bd_eq_ok e
  injection h2 with h2
  injection h2 with h2 h3
  subst h2 h3
  have h1 := cntL_ok hc s 0 _ hok.1 h1
  refine .inr ⟨ι, w, ?_, Stp.refl hR, by rw [h1]; trivial⟩
  rw [run_callFunc_extern hf hname hb (by simpa using hn) he]
  show Result.andThen ((Extern.BytealgCount.count #[.string (concStr s), .int .u8 (Int.ofNat c)]).run P w) _ = _
  rw [Lib.run_countString, h1, concStr_list, byte_of]
  simp only [Result.andThen, conc, Nat.zero_add]
theorem sameG_ok (he : Extern.find fn = some Extern.AbiNoEscape.same) : GOk P f sameG := by
  intro args h v h' e B ι w hR _ hok
  unfold sameG at e
  split at e
  case h_2 => cases e
  injection e with e
  injection e with e1 e2
  subst e1 e2
  refine .inr ⟨ι, w, ?_, Stp.refl hR, hok.1⟩
  rw [run_callFunc_extern hf hname hb (by simpa using hn) he]
  rfl
end
noncomputable def gamL (l : List (Nat × (List AV → H → E (AV × H)))) (f : Nat) : Option (List AV → H → E (AV × H)) :=
  List.rec (motive := fun _ => Option (List AV → H → E (AV × H))) none (fun p _ ih => Prod.rec (motive := fun _ => Option (List AV → H → E (AV × H))) (fun f' g => Bool.rec (motive := fun _ => Option (List AV → H → E (AV × H))) ih (some g) (Nat.beq f f')) p) l
noncomputable def Cx.known (C : Cx) (l : List (Nat × (List AV → H → E (AV × H)))) : Cx := ⟨C.ty, C.fn, C.eqt, gamL l⟩
theorem known_cx {C : Cx} {P : Program} {l : List (Nat × (List AV → H → E (AV × H)))} (hC : CxOk C P) : CxOk (C.known l) P := ⟨hC.ty, hC.fn, hC.call, hC.eq, hC.mixed, hC.dep⟩
theorem gamL_ok {P : Program} {f : FuncId} {g : List AV → H → E (AV × H)} : ∀ (l : List (Nat × (List AV → H → E (AV × H)))), (∀ p ∈ l, GOk P p.1 p.2) → gamL l f = some g → GOk P f g := by
  intro l
  induction l with
  | nil => intro _ hg; cases hg
  | cons p l ih =>
    intro h hg
    obtain ⟨f', g'⟩ := p
    have hg : Bool.rec (motive := fun _ => Option (List AV → H → E (AV × H))) (gamL l f) (some g') (Nat.beq f f') = some g := hg
    cases hb : Nat.beq f f' with
    | true =>
      rw [hb] at hg
      injection hg with hg
      subst hg
      rw [beq_eq hb]
      exact h (f', g') (List.mem_cons_self ..)
    | false => rw [hb] at hg; exact ih (fun p hp => h p (List.mem_cons_of_mem _ hp)) hg
theorem known_gam {C : Cx} {P : Program} {l : List (Nat × (List AV → H → E (AV × H)))} (h : ∀ p ∈ l, GOk P p.1 p.2) : GamOk (C.known l) P :=
  fun _ _ hg => gamL_ok l h hg
theorem memoG_ok {C0 : Cx} {P : Program} (hC : CxOk C0 P) (hg : GamOk C0 P) {f : FuncId} {fn : Func} (hf : C0.fn.get f = some fn) (hb : fn.body.isSome = true) {e : TypeId} {K : Nat} {t : List (List Nat × List Nat)}
    (ht : ∀ p ∈ t, memoV C0 f e K p.1 = .ok p.2) : GOk P f (memoG e t) := memo_ok hC hg hf hb ht
end Go.Eng
