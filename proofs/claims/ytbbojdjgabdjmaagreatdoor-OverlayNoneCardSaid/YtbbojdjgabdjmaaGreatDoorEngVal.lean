/- The abstract evaluator, soundness 3: what operations give that only look. -/
import Derived.Test.YtbbojdjgabdjmaaGreatDoorEngSem
import Derived.Laws.StructEq
namespace Go.Eng
open Go Go.RowKit

/-! ### Strings -/
theorem concStr_toList (a : List Nat) : (concStr a).toList = a.map UInt8.ofNat := by
  rw [ByteArray.toList_eq]; rfl
theorem concStr_size (a : List Nat) : (concStr a).size = a.length := by
  show (a.map UInt8.ofNat).length = _; simp
theorem ofNat_inj {x y : Nat} (hx : x < 256) (hy : y < 256) : UInt8.ofNat x = UInt8.ofNat y ↔ x = y := by
  constructor
  · intro h
    have := congrArg UInt8.toNat h
    simpa [Nat.mod_eq_of_lt hx, Nat.mod_eq_of_lt hy] using this
  · intro h; rw [h]
theorem ofNat_lt {x y : Nat} (hx : x < 256) (hy : y < 256) : UInt8.ofNat x < UInt8.ofNat y ↔ x < y := by
  rw [UInt8.lt_iff_toNat_lt]; simp [Nat.mod_eq_of_lt hx, Nat.mod_eq_of_lt hy]
theorem blt_t {a b : Nat} (h : a < b) : Nat.blt a b = true := by simpa [Nat.blt_eq] using h
theorem blt_f {a b : Nat} (h : ¬ a < b) : Nat.blt a b = false := by
  cases hb : Nat.blt a b with
  | false => rfl
  | true => exact absurd (by simpa [Nat.blt_eq] using hb) h
theorem blt_eq {a b : Nat} (h : Nat.blt a b = true) : a < b := by simpa [Nat.blt_eq] using h
theorem ble_t {a b : Nat} (h : a ≤ b) : Nat.ble a b = true := by simpa [Nat.ble_eq] using h
theorem ble_f {a b : Nat} (h : ¬ a ≤ b) : Nat.ble a b = false := by
  cases hb : Nat.ble a b with
  | false => rfl
  | true => exact absurd (by simpa [Nat.ble_eq] using hb) h
theorem ble_eq {a b : Nat} (h : Nat.ble a b = true) : a ≤ b := by simpa [Nat.ble_eq] using h
theorem cmpL_cons (x y : Nat) (a b : List Nat) : cmpL (x :: a) (y :: b) = ite' (Nat.beq x y) (cmpL a b) (ite' (Nat.blt x y) 0 2) := rfl
theorem cmpL_spec : ∀ (a b : List Nat), (∀ x ∈ a, x < 256) → (∀ x ∈ b, x < 256) →
    (cmpL a b = 0 ∧ Op.bytesLess (a.map UInt8.ofNat) (b.map UInt8.ofNat) = true ∧ (a.map UInt8.ofNat == b.map UInt8.ofNat) = false) ∨
    (cmpL a b = 1 ∧ Op.bytesLess (a.map UInt8.ofNat) (b.map UInt8.ofNat) = false ∧ (a.map UInt8.ofNat == b.map UInt8.ofNat) = true) ∨
    (cmpL a b = 2 ∧ Op.bytesLess (a.map UInt8.ofNat) (b.map UInt8.ofNat) = false ∧ (a.map UInt8.ofNat == b.map UInt8.ofNat) = false)
  | [], [], _, _ => .inr (.inl ⟨rfl, rfl, rfl⟩)
  | [], y :: b, _, _ => .inl ⟨rfl, rfl, rfl⟩
  | x :: a, [], _, _ => .inr (.inr ⟨rfl, rfl, rfl⟩)
  | x :: a, y :: b, ha, hb => by
    have hx := ha x (by simp)
    have hy := hb y (by simp)
    have ih := cmpL_spec a b (fun z hz => ha z (by simp [hz])) (fun z hz => hb z (by simp [hz]))
    rw [cmpL_cons]
    simp only [List.map_cons, Op.bytesLess, List.cons_beq_cons]
    by_cases e : x = y
    · subst e
      have h1 : ¬ UInt8.ofNat x < UInt8.ofNat x := by rw [ofNat_lt hx hx]; omega
      rw [beq_t rfl]
      simpa [h1] using ih
    · have e1 : ¬ UInt8.ofNat x = UInt8.ofNat y := by rw [ofNat_inj hx hy]; exact e
      rw [beq_f e]
      by_cases l : x < y
      · have l1 : UInt8.ofNat x < UInt8.ofNat y := (ofNat_lt hx hy).2 l
        rw [blt_t l]
        exact .inl ⟨rfl, by simp [l1], by simp [e1]⟩
      · have l1 : ¬ UInt8.ofNat x < UInt8.ofNat y := by rw [ofNat_lt hx hy]; exact l
        rw [blt_f l]
        exact .inr (.inr ⟨rfl, by simp [l1, e1], by simp [e1]⟩)
theorem mkB_ok {b : Bool} {v : AV} (h : mkB b = .ok v) : v = .bool b := by
  unfold mkB at h; rw [fB_eq] at h; injection h with h; exact h.symm
theorem mkI_ok {k : IntKind} {n : Int} {v : AV} (h : mkI k n = .ok v) : v = .int k n := by
  unfold mkI at h; rw [fI_eq] at h; injection h with h; exact h.symm
theorem strBin_ok {P : Program} {ι : Inj} {n : Nat} {w : World} {op : BinOp} {x y : List Nat} {v : AV} (hx : ∀ b ∈ x, b < 256) (hy : ∀ b ∈ y, b < 256) (h : strBin op x y = .ok v) :
    (Op.stringOp op (concStr x) (concStr y)).run P w = .ok (conc ι v) w ∧ okV ι n v := by
  have hs := cmpL_spec x y hx hy
  cases op <;> simp only [strBin, fN_eq] at h <;> first
    | (cases h; done)
    | skip
  case add =>
    obtain ⟨h1, h2⟩ := chk_ok h
    rw [fLs_eq] at h2
    injection h2 with h2; subst h2
    have hlen := blt_eq h1
    have hno : ¬ (((concStr x).size + (concStr y).size : Nat) : Int) > IntKind.i64.max := by
      rw [concStr_size, concStr_size]; have : IntKind.i64.max = 9223372036854775807 := by decide
      omega
    refine ⟨?_, ?_⟩
    · simp only [Op.stringOp, hno, if_false, Sem.run_pure]
      congr 2
      simp only [concStr, List.map_append]
      apply ByteArray.ext
      simp [ByteArray.data_append]
    · intro b hb
      rcases List.mem_append.1 hb with hb | hb
      · exact hx b hb
      · exact hy b hb
  all_goals
    have h := mkB_ok h
    subst h
    refine ⟨?_, trivial⟩
    simp only [Op.stringOp, concStr_toList, conc, Sem.run_pure]
    rcases hs with ⟨h1, h2, h3⟩ | ⟨h1, h2, h3⟩ | ⟨h1, h2, h3⟩ <;> simp only [h1, h2, h3] <;> rfl

/-! ### Numbers -/
theorem bitsOf_ok {P : Program} {ι : Inj} {n : Nat} {w : World} {op : BinOp} {k : IntKind} {x y : Int} {v : AV} (h : bitsOf op k x y = .ok v) :
    (Op.intBits op k x y).run P w = .ok (conc ι v) w ∧ okV ι n v := by
  cases op <;> simp only [bitsOf] at h <;> first
    | (cases h; done)
    | (have h := mkI_ok h; subst h; exact ⟨rfl, trivial⟩)
theorem cmpI_ok {P : Program} {ι : Inj} {n : Nat} {w : World} {op : BinOp} {x y : Int} {v : AV} (h : cmpI op x y = .ok v) :
    (Op.intCmp op x y).run P w = .ok (conc ι v) w ∧ okV ι n v := by
  cases op <;> simp only [cmpI] at h <;> first
    | (cases h; done)
    | (have h := mkB_ok h; subst h; exact ⟨rfl, trivial⟩)
theorem shiftI_ok {P : Program} {ι : Inj} {n : Nat} {w : World} {op : BinOp} {k k' : IntKind} {x y : Int} {v : AV} (h : shiftI op k x y = .ok v) :
    (Op.shift op k x k' y).run P w = .ok (conc ι v) w ∧ okV ι n v := by
  obtain ⟨h1, h2⟩ := chk_ok h
  have hy : ¬ y < 0 := by have := of_decide_eq_true h1; omega
  cases op <;> simp only at h2 <;> first
    | (cases h2; done)
    | (have h2 := mkI_ok h2; subst h2; exact ⟨by simp only [Op.shift, hy, if_false, conc]; rfl, trivial⟩)
theorem intBin_ok {P : Program} {ι : Inj} {n : Nat} {w : World} {op : BinOp} {t : TypeId} {k : IntKind} {x y : Int} {v : AV} (h : intBin op k x y = .ok v) (h1 : op ≠ .shl) (h2 : op ≠ .shr) :
    (binOp op t (.int k x) (.int k y)).run P w = .ok (conc ι v) w ∧ okV ι n v := by
  cases op <;> first
    | exact absurd rfl h1
    | exact absurd rfl h2
    | skip
  case add | sub | mul => all_goals (have h := mkI_ok h; subst h; exact ⟨by simp [binOp, Op.intArith, conc], trivial⟩)
  case quo | rem =>
    all_goals
      obtain ⟨g1, g2⟩ := chk_ok h
      have g2 := mkI_ok g2
      subst g2
      have hy : ¬ y = 0 := by intro e; subst e; simp at g1
      exact ⟨by simp [binOp, Op.intDiv, conc, hy], trivial⟩
  case and | or | xor | andNot => all_goals (simp only [binOp, ne_eq, not_true_eq_false, if_false]; exact bitsOf_ok h)
  all_goals (simp only [binOp, ne_eq, not_true_eq_false, if_false]; exact cmpI_ok h)

/-! ### Equality -/
theorem noIface_ok {C : Cx} {P : Program} (hC : CxOk C P) : ∀ (d : Nat) (t : TypeId), noIface C d t = .ok true → ∀ D, d ≤ D → P.eqGuardType D t = false := by
  intro d
  induction d with
  | zero => intro t h; cases h
  | succ d ih =>
    intro t h D hD
    obtain ⟨D, rfl⟩ : ∃ D', D = D' + 1 := ⟨D - 1, by omega⟩
    obtain ⟨u, h1, h2⟩ := E.bd_eq_ok (show (und C t).bd _ = .ok true from h)
    have hu := und_ok hC h1
    simp only [Program.eqGuardType, hu]
    cases u <;> simp only at h2 ⊢
    case interface ms => injection h2 with h2; cases h2
    case array n e => exact ih e h2 D (by omega)
    case struct fs =>
      rw [← Array.any_toList]
      generalize fs.toList = l at h2 ⊢
      induction l with
      | nil => rfl
      | cons f l ihl =>
        obtain ⟨b, g1, g2⟩ := E.bd_eq_ok (show (noIface C d f.type).bd _ = .ok true from h2)
        cases b with
        | false => simp at g2
        | true =>
          have g2' := ihl g2
          simp only [List.any_cons, ih f.type g1 D (by omega), Bool.and_false, Bool.false_or]
          exact g2'
theorem partV_ok {C : Cx} {P : Program} (hC : CxOk C P) {ι : Inj} {n : Nat} {w : World} {t : TypeId} {cs : List AV} {off : Nat} {v : AV} (hok : okL ι n cs) (h : partV C t cs off = .ok v) :
    (part t (concL ι cs).toArray off).run P w = .ok (conc ι v) w ∧ okV ι n v := by
  obtain ⟨a, h1, h⟩ := E.bd_eq_ok h
  unfold part
  simp only [Sem.run_bind, run_isAg hC h1, Result.andThen_ok]
  cases a with
  | true =>
    simp only [ite'_true] at h
    obtain ⟨m, h2, h⟩ := E.bd_eq_ok h
    rw [dropN_eq] at h
    obtain ⟨g1, g2⟩ := takeE_ok h
    injection g2 with g2; subst g2
    simp only [if_true, Sem.run_bind, run_sz hC h2, Result.andThen_ok, Sem.run_pure]
    refine ⟨?_, okL_take _ (okL_drop _ hok)⟩
    simp only [conc, concL_eq]
    congr 2
    apply Array.ext'
    simp [List.map_take, List.map_drop]
  | false =>
    simp only [ite'_false] at h
    have hv := ofOpt_ok h
    rw [nth_eq] at hv
    refine ⟨?_, okL_get hok hv⟩
    simp only [Bool.false_eq_true, if_false]
    have : (concL ι cs).toArray[off]? = some (conc ι v) := by simp [concL_eq, hv]
    rw [this]
    rfl

theorem run_sameAddr_same {P : Program} {w : World} (b o o' : Nat) : (sameAddr ⟨b, o, none⟩ ⟨b, o', none⟩).run P w = .ok (Nat.beq o o') w := by
  unfold sameAddr
  simp only [beq_self_eq_true, if_true, Sem.run_pure]
  congr 1
  by_cases h : o = o'
  · subst h; simp
  · rw [beq_f h]
    have : (⟨b, o, none⟩ : Addr) ≠ ⟨b, o', none⟩ := fun e => h (by injection e)
    simpa using this
theorem run_sameAddr_apart {P : Program} {w : World} {a b : Addr} {arr arr' : Array Value} {e e' : TypeId} (hne : a.block ≠ b.block) (h1 : w.heap[a.block]? = some (.cells arr e (0, 0))) (h2 : w.heap[b.block]? = some (.cells arr' e' (0, 0))) :
    (sameAddr a b).run P w = .ok false w := by
  have f1 : w.frozen? a = false := by simp [World.frozen?, h1]
  have f2 : w.frozen? b = false := by simp [World.frozen?, h2]
  have s1 : w.shape? a.block = some (e, arr.size) := by simp [World.shape?, h1]
  have s2 : w.shape? b.block = some (e', arr'.size) := by simp [World.shape?, h2]
  have g1 : w.frozen? { block := a.block, off := arr.size } = false := by simp [World.frozen?, h1]
  have g2 : w.frozen? { block := b.block, off := arr'.size } = false := by simp [World.frozen?, h2]
  have hne' : (a.block == b.block) = false := by simpa using hne
  simp [sameAddr, hne', f1, f2, noView, viewAt, s1, s2, mayBeOne, stringish, g1, g2]
theorem eqGuard_else {P : Program} {w : World} (op : BinOp) (t : TypeId) (a b : Operand) (p q : Value) (h1 : ¬ ∃ xs ys, p = .agg xs ∧ q = .agg ys) (h2 : ¬ (p = .nilIface ∧ q = .nilIface)) : (eqGuard op t a b p q).run P w = .ok () w := by
  cases op <;> first
    | rfl
    | (simp only [eqGuard, Bool.not_true, Bool.false_eq_true, if_false]
       split
       · exact absurd ⟨rfl, rfl⟩ h2
       · exact absurd ⟨_, _, rfl, rfl⟩ h1
       · rfl)
/-- No two numbers, no two strings: '==' is the general one. -/
def plainPair (x y : Value) : Bool := match x, y with
  | .int _ _, .int _ _ | .float _ _, .float _ _ | .complex _ _ _, .complex _ _ _ | .string _, .string _ => false
  | _, _ => true
theorem binOp_eql {t : TypeId} {x y : Value} (hp : plainPair x y = true) : binOp .eql t x y = (do pure (.bool (← Op.equal t x y))) := by
  cases x <;> cases y <;> first | rfl | (simp [plainPair] at hp; done)
theorem binOp_neq {t : TypeId} {x y : Value} (hp : plainPair x y = true) : binOp .neq t x y = (do pure (.bool (!(← Op.equal t x y)))) := by
  cases x <;> cases y <;> first | rfl | (simp [plainPair] at hp; done)
theorem conc_plain {ι : Inj} {x y : AV} (n1 : ∀ k a k' b, x = .int k a → y = .int k' b → False) (n2 : ∀ a b, x = .str a → y = .str b → False) : plainPair (conc ι x) (conc ι y) = true := by
  cases x with
  | int k a =>
    cases y with
    | int k' b => exact (n1 _ _ _ _ rfl rfl).elim
    | sl b off z len c => cases c <;> rfl
    | _ => rfl
  | str a =>
    cases y with
    | str b => exact (n2 _ _ rfl rfl).elim
    | sl b off z len c => cases c <;> rfl
    | _ => rfl
  | sl b off z len c => cases c <;> rfl
  | _ => rfl
theorem conc_nili {ι : Inj} {x : AV} (h : conc ι x = .nilIface) : x = .nili := by
  cases x with
  | nili => rfl
  | sl b off z len c => cases c <;> cases h
  | _ => cases h
theorem conc_agg {ι : Inj} {x : AV} {cs : Array Value} (h : conc ι x = .agg cs) : ∃ l, x = .agg l ∧ cs = (concL ι l).toArray := by
  cases x with
  | agg l => injection h with h; exact ⟨l, rfl, h.symm⟩
  | sl b off z len c => cases c <;> cases h
  | _ => cases h
section
variable {C : Cx} {P : Program} (hC : CxOk C P) {B : Nat} {ι : Inj} {h : H} {w : World} (hR : R B ι h w)
include hR
theorem ptrEq_ok {b o b' o' : Nat} {r : Bool} (e : ptrEq h b o b' o' = .ok r) :
    (sameAddr ⟨(ι b).blk, (ι b).off + o, none⟩ ⟨(ι b').blk, (ι b').off + o', none⟩).run P w = .ok r w := by
  unfold ptrEq at e
  by_cases hb : b = b'
  · subst hb
    rw [beq_t rfl] at e
    simp only [ite'_true] at e
    injection e with e
    rw [run_sameAddr_same, ← e]
    congr 1
    by_cases ho : o = o'
    · subst ho; rw [beq_t rfl, beq_t rfl]
    · rw [beq_f ho, beq_f (by omega)]
  · rw [beq_f hb] at e
    simp only [ite'_false] at e
    obtain ⟨cs, t, op, pu, ro, h1, h2, e⟩ := withCells_ok e
    obtain ⟨cs', t', op', pu', ro', h1', h2', e⟩ := withCells_ok e
    obtain ⟨hp, e⟩ := chk_ok e
    injection e with e
    subst e
    rw [Bool.and_eq_true] at hp
    obtain ⟨hp1, hp2⟩ := hp
    have o1 := hR.obj b h1
    have o2 := hR.obj b' h1'
    rw [h2] at o1
    rw [h2'] at o2
    obtain ⟨arr, lo, hi, a1, _, _, _, _, _, a7, _⟩ := o1
    obtain ⟨arr', lo', hi', c1, _, _, _, _, _, c7, _⟩ := o2
    obtain ⟨rfl, rfl⟩ := a7 hp1
    obtain ⟨rfl, rfl⟩ := c7 hp2
    refine run_sameAddr_apart (fun e => hb (hR.inj _ _ h1 h1' (by rw [h2]; rfl) (by rw [h2']; rfl) e)) a1 c1
include hC
set_option maxHeartbeats 1600000 in
theorem eqV_ok : ∀ (d : Nat) (t : TypeId) (x y : AV) (r : Bool), okV ι h.n x → okV ι h.n y → eqV C h d t x y = .ok r → ∀ D, d ≤ D → (Op.equalIn D t (conc ι x) (conc ι y)).run P w = .ok r w := by
  intro d
  induction d with
  | zero => intro t x y r _ _ e; cases e
  | succ d ih =>
    intro t x y r hx hy e D hD
    obtain ⟨D, rfl⟩ : ∃ D', D = D' + 1 := ⟨D - 1, by omega⟩
    obtain ⟨u, h1, e⟩ := E.bd_eq_ok (show (und C t).bd _ = .ok r from e)
    have hu := run_und hC h1 w
    have hu' := und_ok hC h1
    split at e
    · injection e with e; subst e; exact run_equalIn_bool' w D t _ _ hu'
    · obtain ⟨hk, e⟩ := chk_ok e
      injection e with e; subst e
      have hk := eq_of_beq hk
      subst hk
      exact run_equalIn_int w D t _ _ _ _ hu'
    · rw [fN_eq] at e
      injection e with e; subst e
      rw [show conc ι (.str _) = .string (concStr _) from rfl, show conc ι (.str _) = .string (concStr _) from rfl, run_equalIn_string w D t _ _ hu', concStr_toList, concStr_toList]
      rcases cmpL_spec _ _ hx hy with ⟨g1, _, g3⟩ | ⟨g1, _, g3⟩ | ⟨g1, _, g3⟩ <;> rw [g1, g3] <;> rfl
    · injection e with e; subst e; simp [Op.equalIn, hu, conc]
    · injection e with e; subst e; simp [Op.equalIn, hu, conc]
    · injection e with e; subst e; simp [Op.equalIn, hu, conc]
    · obtain ⟨n, h2, e⟩ := E.bd_eq_ok e
      obtain ⟨hn, e⟩ := chk_ok e
      have hn' : n ≠ 0 := fun e => by subst e; simp at hn
      have hp := ptrEq_ok (P := P) hR e
      simp [Op.equalIn, hu, conc, run_sz hC h2, hn', hp]
    · injection e with e; subst e; simp [Op.equalIn, hu, conc]
    · injection e with e; subst e; simp [Op.equalIn, hu, conc]
    · injection e with e; subst e; simp [Op.equalIn, hu, conc]
    · injection e with e; subst e; simp [Op.equalIn, hu, conc]
    · injection e with e; subst e; cases ‹ACap› <;> simp [Op.equalIn, hu, conc, concSl]
    · injection e with e; subst e; cases ‹ACap› <;> simp [Op.equalIn, hu, conc, concSl]
    · injection e with e; subst e; simp [Op.equalIn, hu, conc]
    · injection e with e; subst e; simp [Op.equalIn, hu, conc]
    · injection e with e; subst e; simp [Op.equalIn, hu, conc]
    · injection e with e; subst e; simp [Op.equalIn, hu, conc]
    · injection e with e; subst e; simp [Op.equalIn, hu, conc]
    · injection e with e; subst e; simp [Op.equalIn, hu, conc]
    · rename_i fs xs ys eold
      clear eold
      obtain ⟨hm, e⟩ := chk_ok e
      have hf : P.fieldsOf t = fs := by simp [Program.fieldsOf, hu']
      rw [show conc ι (.agg xs) = .agg (concL ι xs).toArray from rfl, show conc ι (.agg ys) = .agg (concL ι ys).toArray from rfl, run_equalIn_agg w D t _ _ (by rw [hf]; exact hu') (hC.eq t hm), hf]
      generalize fs.toList = l at e ⊢
      clear h1 hu hu' hf hm
      induction l with
      | nil => injection e with e; subst e; rfl
      | cons f l ihl =>
        have e' : ite' (f.name == "_") (eqS C (eqV C h d) xs ys l) ((partV C f.type xs f.offset).bd fun x => (partV C f.type ys f.offset).bd fun y => (eqV C h d f.type x y).bd fun b => ite' b (eqS C (eqV C h d) xs ys l) (.ok false)) = .ok r := e
        unfold Op.eqFields
        by_cases hf : f.name = "_"
        · rw [if_neg (by simpa using hf)]
          rw [show (f.name == "_") = true by simpa using hf] at e'
          exact ihl e'
        · rw [if_pos hf]
          rw [show (f.name == "_") = false by simpa using hf] at e'
          simp only [ite'_false] at e'
          obtain ⟨a, p1, e'⟩ := E.bd_eq_ok e'
          obtain ⟨b, p2, e'⟩ := E.bd_eq_ok e'
          obtain ⟨c, p3, e'⟩ := E.bd_eq_ok e'
          obtain ⟨q1, q2⟩ := partV_ok hC (w := w) hx p1
          obtain ⟨q3, q4⟩ := partV_ok hC (w := w) hy p2
          have q5 := ih _ _ _ _ q2 q4 p3 D (by omega)
          simp only [Sem.run_bind, q1, q3, q5, Result.andThen_ok]
          cases c with
          | true => simp only [Bool.not_true, Bool.false_eq_true, if_false]; exact ihl e'
          | false => simp only [ite'_false] at e'; injection e' with e'; subst e'; rfl
    · cases e
theorem eqG_ok {t : TypeId} {x y : AV} {r : Bool} (hx : okV ι h.n x) (hy : okV ι h.n y) (e : eqG C h t x y = .ok r) :
    (Op.equal t (conc ι x) (conc ι y)).run P w = .ok r w ∧ ∀ op a b, (eqGuard op t a b (conc ι x) (conc ι y)).run P w = .ok () w := by
  unfold eqG at e
  split at e
  · cases e
  · rename_i xs ys
    obtain ⟨b, h1, e⟩ := E.bd_eq_ok e
    obtain ⟨hb, e2⟩ := chk_ok e
    rw [hb] at h1
    exact ⟨eqV_ok hC hR _ _ _ _ _ hx hy e2 _ (by decide), fun op a b => run_eqGuard_agg w op t a b _ _ (noIface_ok hC _ _ h1 _ hC.dep)⟩
  · rename_i hn1 hn2
    refine ⟨eqV_ok hC hR _ _ _ _ _ hx hy e _ (by decide), fun op a b => eqGuard_else op t a b _ _ (fun ⟨xs, ys, g1, g2⟩ => ?_) (fun ⟨g1, g2⟩ => ?_)⟩
    · obtain ⟨l, e1, _⟩ := conc_agg g1
      obtain ⟨l', e2, _⟩ := conc_agg g2
      exact hn2 _ _ e1 e2
    · exact hn1 (conc_nili g1) (conc_nili g2)
theorem binV_ok {op : BinOp} {t : TypeId} {x y v : AV} (hx : okV ι h.n x) (hy : okV ι h.n y) (e : binV C h op t x y = .ok v) :
    (∀ a b, (eqGuard op t a b (conc ι x) (conc ι y)).run P w = .ok () w) ∧ (binOp op t (conc ι x) (conc ι y)).run P w = .ok (conc ι v) w ∧ okV ι h.n v := by
  unfold binV at e
  split at e
  · rename_i k a k' b
    refine ⟨fun a b => eqGuard_else op t a b _ _ (fun ⟨_, _, h, _⟩ => by cases h) (fun h => by cases h.1), ?_⟩
    split at e
    · have := shiftI_ok (P := P) (ι := ι) (n := h.n) (w := w) (k' := k') e
      exact this
    · have := shiftI_ok (P := P) (ι := ι) (n := h.n) (w := w) (k' := k') e
      exact this
    · rename_i g1 g2
      obtain ⟨hk, e2⟩ := chk_ok e
      have hk := eq_of_beq hk
      subst hk
      exact intBin_ok e2 g1 g2
  · refine ⟨fun a b => eqGuard_else op t a b _ _ (fun ⟨_, _, h, _⟩ => by cases h) (fun h => by cases h.1), ?_⟩
    have := strBin_ok (P := P) (ι := ι) (n := h.n) (w := w) hx hy e
    cases op <;> exact this
  · rename_i n1 n2
    split at e
    · obtain ⟨b, h1, e⟩ := E.bd_eq_ok e
      have e := mkB_ok e
      subst e
      obtain ⟨g1, g2⟩ := eqG_ok hC hR hx hy h1
      refine ⟨fun a b => g2 _ a b, ?_, trivial⟩
      rw [binOp_eql (conc_plain n1 n2)]
      simp only [Sem.run_bind, g1, Result.andThen_ok]
      rfl
    · obtain ⟨b, h1, e⟩ := E.bd_eq_ok e
      have e := mkB_ok e
      subst e
      obtain ⟨g1, g2⟩ := eqG_ok hC hR hx hy h1
      refine ⟨fun a b => g2 _ a b, ?_, trivial⟩
      rw [binOp_neq (conc_plain n1 n2)]
      simp only [Sem.run_bind, g1, Result.andThen_ok]
      rfl
    · cases e
end
theorem unV_ok {P : Program} {ι : Inj} {n : Nat} {w : World} {op : UnOp} {x v : AV} (e : unV op x = .ok v) : (Op.unary op (conc ι x)).run P w = .ok (conc ι v) w ∧ okV ι n v := by
  unfold unV at e
  split at e
  · have e := mkI_ok e; subst e; exact ⟨rfl, trivial⟩
  · have := bitsOf_ok (P := P) (ι := ι) (n := n) (w := w) e
    exact this
  · have e := mkB_ok e; subst e; exact ⟨rfl, trivial⟩
  · cases e
end Go.Eng
