/- The abstract evaluator, part 2: values, heap, operations. -/
import Derived.Test.YtbbojdjgabdjmaaGreatDoorEngDefs
namespace Go.Eng
open Go

inductive ACap where
  | kn (n : Nat)
  | op (sz : Nat)
  | zc (sz : Nat)
/-- Values. A pointer, a slice, a map name a block of the abstract heap. Of a slice: the block, where its first cell is, where its address points if its capacity is 0, its length. -/
inductive AV where
  | bool (b : Bool)
  | int (k : IntKind) (n : Int)
  | str (s : List Nat)
  | nilp
  | ptr (b o : Nat)
  | nils
  | sl (b off z len : Nat) (c : ACap)
  | nilm
  | map (r : Nat)
  | func (fn : Fn) (first cap : List AV)
  | nilf
  | iface (t : TypeId) (v : AV)
  | nili
  | agg (cs : List AV)
  | tup (vs : List AV)
structure Ent where
  k : AV
  v : AV
  born : Nat
inductive AObj where
  | cells (cs : List AV) (elem : TypeId) (opn pur ro : Bool)
  | dead
  | map (es : List Ent) (clock : Nat)
  | sit (s : List Nat) (pos : Nat)
  | mit (m : Option Nat) (since : Nat) (seen : List Nat) (stepped : Nat)
  | loop (st : LoopState) (pend : Option Code) (fn : FuncId) (n : Nat) (t : T3 AV) (params : List Nat) (assign body : Code) (defers : Nat)
  | dfr
structure H where
  t : T5 AObj
  n : Nat
/-- An activation's frame: its function, its number of temporaries, those that are set. -/
structure Fr where
  fn : FuncId
  n : Nat
  t : T3 AV
  rnd : Option Nat
  defs : List Nat
/-- What is the same all along: the types, the functions, the struct types that '==' may compare, the functions that are known by contract. -/
structure Cx where
  ty : BT TypeInfo
  fn : BT Func
  eqt : List Nat
  gam : Nat → Option (List AV → H → E (AV × H))

noncomputable def newO {γ : Type} (h : H) (o : AObj) (k : Nat → H → E γ) : E γ := H.rec (motive := fun _ => E γ) (fun t n => chk (Nat.blt n 32760) 5 <| T5.set t n o fun t => fN (n + 1) fun m => k n ⟨t, m⟩) h
noncomputable def setO {γ : Type} (h : H) (b : Nat) (o : AObj) (k : H → E γ) : E γ := H.rec (motive := fun _ => E γ) (fun t n => chk (Nat.blt b n) 6 <| T5.set t b o fun t => k ⟨t, n⟩) h
noncomputable def getO (h : H) (b : Nat) : E AObj := H.rec (motive := fun _ => E AObj) (fun t n => chk (Nat.blt b n) 10 (.ok (T5.get t b))) h
noncomputable def withCells {β : Type} (h : H) (b : Nat) (f : List AV → TypeId → Bool → Bool → Bool → E β) : E β :=
  (getO h b).bd fun o => match o with
    | .cells cs e op pu ro => f cs e op pu ro
    | _ => .err [11, b]
/-- n cells from place off on of block b. -/
noncomputable def loadN (h : H) (b off n : Nat) : E (List AV) := withCells h b fun cs _ _ _ _ => takeE n (dropN cs off) fun l => .ok l
noncomputable def load1 (h : H) (b off : Nat) : E AV := withCells h b fun cs _ _ _ _ => ofOpt 12 (nth cs off)
noncomputable def isCell (v : AV) : Bool := match v with | .agg _ => false | .tup _ => false | _ => true
noncomputable def allB {α : Type} (p : α → Bool) (l : List α) : Bool := List.rec (motive := fun _ => Bool) true (fun a _ ih => ite' (p a) ih false) l
noncomputable def storeN {γ : Type} (h : H) (b off : Nat) (new : List AV) (k : H → E γ) : E γ :=
  chk (allB isCell new) 13 <| withCells h b fun cs e op pu ro => chk (!ro) 14 <| overL cs off new fun cs => setO h b (.cells cs e op pu ro) k
noncomputable def cellsV (v : AV) : List AV := match v with | .agg cs => cs | v => [v]

/-! ### Types -/
noncomputable def info (C : Cx) (t : TypeId) : E TypeInfo := ofOpt 20 (C.ty.get t)
noncomputable def und (C : Cx) (t : TypeId) : E TypeDesc := (info C t).bd fun i => match i.desc with
  | .named _ u => (info C u).bd fun j => .ok j.desc
  | d => .ok d
noncomputable def sz (C : Cx) (t : TypeId) : E Nat := (info C t).bd fun i => fN i.size .ok
noncomputable def isAg (C : Cx) (t : TypeId) : E Bool := (und C t).bd fun d => match d with
  | .struct _ => .ok true
  | .array _ _ => .ok true
  | _ => .ok false
/-- A constant that is one cell. -/
noncomputable def ofV1 (v : Value) : E AV := match v with
  | .bool b => .ok (.bool b)
  | .int k n => fI n fun n => .ok (.int k n)
  | .string s => fLN (s.data.toList.map UInt8.toNat) fun l => .ok (.str l)
  | .pointer none => .ok .nilp
  | .slice none 0 0 => .ok .nils
  | .map none => .ok .nilm
  | .nilFunc => .ok .nilf
  | .nilIface => .ok .nili
  | _ => .err [21]
noncomputable def ofV2 (v : Value) : E AV := match v with
  | .agg cs => (mapE ofV1 cs.toList).bd fun l => .ok (.agg l)
  | v => ofV1 v
noncomputable def ofV (v : Value) : E AV := match v with
  | .tuple vs => (mapE ofV2 vs.toList).bd fun l => .ok (.tup l)
  | v => ofV2 v
noncomputable def zeroV (C : Cx) (t : TypeId) : E AV := (info C t).bd fun i => match i.zero with
  | some v => ofV2 v
  | none => .err [22]
/-- n times the cells. -/
noncomputable def repL (n : Nat) (z : List AV) : List AV := Nat.rec (motive := fun _ => List AV) [] (fun _ ih => z ++ ih) n
/-- A part of an aggregate's cells. -/
noncomputable def partV (C : Cx) (t : TypeId) (cs : List AV) (off : Nat) : E AV :=
  (isAg C t).bd fun a => ite' a ((sz C t).bd fun n => takeE n (dropN cs off) fun l => .ok (.agg l)) (ofOpt 23 (nth cs off))
noncomputable def loadT (C : Cx) (t : TypeId) (b o : Nat) (h : H) : E AV :=
  (isAg C t).bd fun a => ite' a ((sz C t).bd fun n => (loadN h b o n).bd fun l => .ok (.agg l)) (load1 h b o)
noncomputable def storeT {γ : Type} (C : Cx) (t : TypeId) (b o : Nat) (v : AV) (h : H) (k : H → E γ) : E γ :=
  (sz C t).bd fun n => let cs := cellsV v; chk (Nat.beq cs.length n) 24 <| storeN h b o cs k

/-! ### Numbers -/
noncomputable def intOf (v : AV) : E (IntKind × Int) := match v with | .int k n => .ok (k, n) | _ => .err [30]
noncomputable def int1 (v : AV) : E Int := match v with | .int _ n => .ok n | _ => .err [31]
noncomputable def boolOf (v : AV) : E Bool := match v with | .bool b => .ok b | _ => .err [32]
noncomputable def mkI (k : IntKind) (n : Int) : E AV := fI n fun n => .ok (.int k n)
noncomputable def mkB (b : Bool) : E AV := fB b fun b => .ok (.bool b)
noncomputable def bitsOf (op : BinOp) (k : IntKind) (x y : Int) : E AV :=
  let a := BitVec.ofInt k.bits x
  let b := BitVec.ofInt k.bits y
  match op with
  | .and => mkI k (k.wrap (a &&& b).toNat)
  | .or => mkI k (k.wrap (a ||| b).toNat)
  | .xor => mkI k (k.wrap (a ^^^ b).toNat)
  | .andNot => mkI k (k.wrap (a &&& ~~~b).toNat)
  | _ => .err [33]
noncomputable def cmpI (op : BinOp) (x y : Int) : E AV := match op with
  | .eql => mkB (x == y)
  | .neq => mkB (x != y)
  | .lss => mkB (x < y)
  | .leq => mkB (x ≤ y)
  | .gtr => mkB (x > y)
  | .geq => mkB (x ≥ y)
  | _ => .err [34]
noncomputable def intBin (op : BinOp) (k : IntKind) (x y : Int) : E AV := match op with
  | .add => mkI k (k.wrap (x + y))
  | .sub => mkI k (k.wrap (x - y))
  | .mul => mkI k (k.wrap (x * y))
  | .quo => chk (!(y == 0)) 35 (mkI k (k.wrap (x.tdiv y)))
  | .rem => chk (!(y == 0)) 36 (mkI k (x.tmod y))
  | .and => bitsOf .and k x y
  | .or => bitsOf .or k x y
  | .xor => bitsOf .xor k x y
  | .andNot => bitsOf .andNot k x y
  | op => cmpI op x y
noncomputable def shiftI (op : BinOp) (k : IntKind) (x y : Int) : E AV :=
  chk (decide (0 ≤ y)) 37 <| match op with
    | .shl => mkI k (k.wrap (x * 2 ^ (min y.toNat k.bits)))
    | .shr => mkI k (x.fdiv (2 ^ (min y.toNat k.bits)))
    | _ => .err [38]
/-- Two lists of bytes: less, equal, greater: -1, 0, 1 as 0, 1, 2. -/
noncomputable def cmpL (a : List Nat) : List Nat → Nat :=
  List.rec (motive := fun _ => List Nat → Nat) (fun b => List.rec (motive := fun _ => Nat) 1 (fun _ _ _ => 0) b)
    (fun x _ ih b => List.rec (motive := fun _ => Nat) 2 (fun y b _ => ite' (Nat.beq x y) (nx (ih b)) (ite' (Nat.blt x y) 0 2)) b) a
noncomputable def strBin (op : BinOp) (x y : List Nat) : E AV := match op with
  | .add => chk (Nat.blt (x.length + y.length) 1000000000) 39 <| fLs (x ++ y) fun l => .ok (.str l)
  | .eql => fN (cmpL x y) fun c => mkB (Nat.beq c 1)
  | .neq => fN (cmpL x y) fun c => mkB (!Nat.beq c 1)
  | .lss => fN (cmpL x y) fun c => mkB (Nat.beq c 0)
  | .leq => fN (cmpL x y) fun c => mkB (Nat.ble c 1)
  | .gtr => fN (cmpL x y) fun c => mkB (Nat.beq c 2)
  | .geq => fN (cmpL x y) fun c => mkB (!Nat.beq c 0)
  | _ => .err [40]

/-! ### Equality -/
/-- No interface within (to depth d). -/
noncomputable def noIface (C : Cx) (d : Nat) : TypeId → E Bool :=
  Nat.rec (motive := fun _ => TypeId → E Bool) (fun _ => .err [41])
    (fun _ ih t => (und C t).bd fun u => match u with
      | .interface _ => .ok false
      | .struct fs => List.rec (motive := fun _ => E Bool) (.ok true) (fun (f : Field) _ r => (ih f.type).bd fun b => ite' b r (.ok false)) fs.toList
      | .array _ e => ih e
      | _ => .ok true) d
noncomputable def memN (l : List Nat) (n : Nat) : Bool := List.rec (motive := fun _ => Bool) false (fun a _ ih => ite' (Nat.beq a n) true ih) l
noncomputable def ptrEq (h : H) (b o b' o' : Nat) : E Bool :=
  ite' (Nat.beq b b') (.ok (Nat.beq o o')) <|
    withCells h b fun _ _ _ pu _ => withCells h b' fun _ _ _ pu' _ => chk (pu && pu') 42 (.ok false)
noncomputable def eqS (C : Cx) (rec : TypeId → AV → AV → E Bool) (xs ys : List AV) (fs : List Field) : E Bool :=
  List.rec (motive := fun _ => E Bool) (.ok true) (fun (f : Field) _ r =>
    ite' (f.name == "_") r <| (partV C f.type xs f.offset).bd fun x => (partV C f.type ys f.offset).bd fun y => (rec f.type x y).bd fun b => ite' b r (.ok false)) fs
noncomputable def eqV (C : Cx) (h : H) (d : Nat) : TypeId → AV → AV → E Bool :=
  Nat.rec (motive := fun _ => TypeId → AV → AV → E Bool) (fun _ _ _ => .err [43])
    (fun _ ih t x y => (und C t).bd fun u => match u, x, y with
      | .bool, .bool a, .bool b => .ok (a == b)
      | .int _, .int k a, .int k' b => chk (k == k') 44 (.ok (a == b))
      | .string, .str a, .str b => fN (cmpL a b) fun c => .ok (Nat.beq c 1)
      | .pointer _, .nilp, .nilp => .ok true
      | .pointer _, .nilp, .ptr _ _ => .ok false
      | .pointer _, .ptr _ _, .nilp => .ok false
      | .pointer e, .ptr b o, .ptr b' o' => (sz C e).bd fun n => chk (!Nat.beq n 0) 45 (ptrEq h b o b' o')
      | .interface _, .nili, .nili => .ok true
      | .interface _, .nili, .iface _ _ => .ok false
      | .interface _, .iface _ _, .nili => .ok false
      | .slice _, .nils, .nils => .ok true
      | .slice _, .nils, .sl .. => .ok false
      | .slice _, .sl .., .nils => .ok false
      | .map _ _, .nilm, .nilm => .ok true
      | .map _ _, .nilm, .map _ => .ok false
      | .map _ _, .map _, .nilm => .ok false
      | .func _ _ _, .nilf, .nilf => .ok true
      | .func _ _ _, .nilf, .func _ _ _ => .ok false
      | .func _ _ _, .func _ _ _, .nilf => .ok false
      | .struct fs, .agg xs, .agg ys => chk (memN C.eqt t) 46 (eqS C ih xs ys fs.toList)
      | _, _, _ => .err [47]) d
/-- '==' on operands that are no numbers and no strings. -/
noncomputable def eqG (C : Cx) (h : H) (t : TypeId) (x y : AV) : E Bool := match x, y with
  | .nili, .nili => .err [48]
  | .agg xs, .agg ys => (noIface C 8 t).bd fun b => chk b 49 (eqV C h 8 t (.agg xs) (.agg ys))
  | x, y => eqV C h 8 t x y
noncomputable def binV (C : Cx) (h : H) (op : BinOp) (t : TypeId) (x y : AV) : E AV := match x, y with
  | .int k a, .int k' b => match op with
    | .shl => shiftI .shl k a b
    | .shr => shiftI .shr k a b
    | op => chk (k == k') 50 (intBin op k a b)
  | .str a, .str b => strBin op a b
  | x, y => match op with
    | .eql => (eqG C h t x y).bd fun b => mkB b
    | .neq => (eqG C h t x y).bd fun b => mkB (!b)
    | _ => .err [51]
noncomputable def unV (op : UnOp) (x : AV) : E AV := match op, x with
  | .neg, .int k n => mkI k (k.wrap (0 - n))
  | .xor, .int k n => bitsOf .xor k (if k.signed then -1 else k.max) n
  | .not, .bool b => mkB (!b)
  | _, _ => .err [52]

/-! ### Slices -/
noncomputable def bound (x : AV) (y : Nat) : E Nat := (int1 x).bd fun i => chk (decide (0 ≤ i) && decide (i ≤ y)) 53 (fN i.toNat .ok)
noncomputable def obound (x : Option AV) (d y : Nat) : E Nat := match x with | none => .ok d | some x => bound x y
/-- The end of a block's cells that are known. -/
noncomputable def endOf (h : H) (b : Nat) : E Nat := withCells h b fun cs _ _ _ _ => fN cs.length .ok
noncomputable def sliceV (C : Cx) (t : TypeId) (x : AV) (lo hi mx : Option AV) (h : H) : E AV := (und C t).bd fun u => match u, x with
  | .array n e, .ptr b o => (sz C e).bd fun s => (obound mx n n).bd fun m => (obound hi n m).bd fun hh => (obound lo 0 hh).bd fun l =>
      fN (if m = l then o else o + l * s) fun o => fN (hh - l) fun len => fN (m - l) fun c => .ok (.sl b o o len (.kn c))
  | .string, .str s => (match mx with | none => (obound hi s.length s.length).bd fun hh => (obound lo 0 hh).bd fun l => takeE (hh - l) (dropN s l) fun l => .ok (.str l) | some _ => .err [54])
  | .slice e, .nils => (sz C e).bd fun _ => (obound mx 0 0).bd fun m => (obound hi 0 m).bd fun hh => (obound lo 0 hh).bd fun _ => .ok .nils
  | .slice e, .sl b off _ len (.kn c) => (sz C e).bd fun s => (obound mx c c).bd fun m => (obound hi len m).bd fun hh => (obound lo 0 hh).bd fun l =>
      fN (if m = l then off else off + l * s) fun o => fN (hh - l) fun len => fN (m - l) fun c => .ok (.sl b o o len (.kn c))
  | .slice e, .sl b off z len (.op s') => (sz C e).bd fun s => chk (Nat.beq s s') 55 <| (endOf h b).bd fun en => (match mx with
      | none =>
        -- up to what is known of the block
        (obound hi len ((en - off) / s)).bd fun hh => (obound lo 0 hh).bd fun l =>
          ite' (Nat.beq l 0) (fN hh fun len => .ok (.sl b off z len (.op s)))
            (fN (off + l * s) fun o => fN (hh - l) fun len => .ok (.sl b o off len (.op s)))
      | some mx => (bound mx ((en - off) / s)).bd fun m => (obound hi len m).bd fun hh => (obound lo 0 hh).bd fun l =>
          ite' (Nat.beq m 0) (.ok (.sl b off z 0 (.zc s)))
            (fN (if m = l then off else off + l * s) fun o => fN (hh - l) fun len => fN (m - l) fun c => .ok (.sl b o o len (.kn c))))
  | _, _ => .err [56]
noncomputable def idxAddr (C : Cx) (t : TypeId) (x i : AV) : E AV := (int1 i).bd fun i => (und C t).bd fun u => match u, x with
  | .array len e, .ptr b o => chk (decide (0 ≤ i) && decide (i < len)) 57 <| (sz C e).bd fun s => fN (o + i.toNat * s) fun o => .ok (.ptr b o)
  | .slice e, .sl b off _ len _ => chk (decide (0 ≤ i) && decide (i < len)) 58 <| (sz C e).bd fun s => fN (off + i.toNat * s) fun o => .ok (.ptr b o)
  | _, _ => .err [59]
noncomputable def idxV (C : Cx) (t : TypeId) (x i : AV) : E AV := (int1 i).bd fun i => (und C t).bd fun u => match u, x with
  | .array len e, .agg cs => chk (decide (0 ≤ i) && decide (i < len)) 60 <| (sz C e).bd fun s => partV C e cs (i.toNat * s)
  | .string, .str s => chk (decide (0 ≤ i)) 61 <| (ofOpt 62 (nth s i.toNat)).bd fun b => mkI .u8 b
  | _, _ => .err [63]
/-- The cells of what is appended or copied: the first n elements of a slice or a string. -/
noncomputable def srcCells (s n : Nat) (x : AV) (h : H) : E (List AV) := match x with
  | .nils => chk (Nat.beq n 0) 64 (.ok [])
  | .sl b off _ len _ => chk (Nat.ble n len) 65 (ite' (Nat.beq n 0) (.ok []) (loadN h b off (n * s)))
  | .str l => chk (Nat.beq s 1) 134 <| takeE n l fun l => mapE (fun b => .ok (.int .u8 (Int.ofNat b))) l
  | _ => .err [66]
noncomputable def lenV (x : AV) : E Nat := match x with
  | .nils => .ok 0
  | .sl _ _ _ len _ => .ok len
  | .str l => fN l.length .ok
  | _ => .err [67]
/-- The zero value's cells are as many as an element's. -/
noncomputable def zOk (i : TypeInfo) (w : Nat) : Bool := match i.zero with
  | some v => Nat.beq v.cells.size w
  | none => false
noncomputable def appendV (C : Cx) (ts : List TypeId) (s x : AV) (h : H) : E (AV × H) :=
  (ofOpt 68 (nth ts 0)).bd fun t => (und C t).bd fun u => match u with
  | .slice e => (sz C e).bd fun w => chk (Nat.blt 0 w) 69 <| (info C e).bd fun ie => chk (zOk ie w) 133 <|
    ((match nth ts 1 with
      | none => .ok true
      | some t => (und C t).bd fun u => match u with | .int _ => .err [70] | _ => .ok true) : E Bool).bd fun _ =>
    (lenV x).bd fun n => (srcCells w n x h).bd fun new =>
    let small (need : Nat) : Bool := Nat.blt need 1000000000000 && Nat.blt (need * ie.bytes) 1000000000000
    match s with
    | .nils => ite' (Nat.beq n 0) (.ok (.nils, h)) <| chk (small n) 71 <| newO h (.cells new e true true false) fun b h => .ok (.sl b 0 0 n (.op w), h)
    | .sl b off z len (.kn c) =>
      ite' (Nat.ble (len + n) c) (storeN h b (off + len * w) new fun h => fN (len + n) fun l => .ok (.sl b off z l (.kn c), h)) <|
        chk (small (len + n)) 72 <| (ite' (Nat.beq len 0) (.ok []) (loadN h b off (len * w))).bd fun old => fLs (old ++ new) fun cs => newO h (.cells cs e true true false) fun b h => fN (len + n) fun l => .ok (.sl b 0 0 l (.op w), h)
    | .sl b off z len (.zc w') => ite' (Nat.beq n 0) (.ok (.sl b off z len (.zc w'), h)) <| chk (small n && Nat.beq len 0) 73 <| newO h (.cells new e true true false) fun b h => .ok (.sl b 0 0 n (.op w), h)
    | .sl b off z len (.op w') => ite' (Nat.beq n 0) (.ok (.sl b off z len (.op w'), h)) <|
        chk (small (len + n) && Nat.beq w w') 74 <| withCells h b fun cs e' op pu ro => chk (op && !ro && Nat.beq e' e && allB isCell new) 75 <| takeE (len * w) (dropN cs off) fun old =>
          fLs (old ++ new) fun cs => setO h b .dead fun h => newO h (.cells cs e true pu false) fun b h => fN (len + n) fun l => .ok (.sl b 0 0 l (.op w), h)
    | _ => .err [76]
  | _ => .err [77]
noncomputable def copyV (C : Cx) (ts : List TypeId) (d s : AV) (h : H) : E (AV × H) :=
  (ofOpt 78 (nth ts 0)).bd fun t => (und C t).bd fun u => match u with
  | .slice e => (sz C e).bd fun w => (lenV d).bd fun dl => (lenV s).bd fun sl => fN (Nat.min sl dl) fun n => (srcCells w n s h).bd fun cs =>
    match d with
    | .nils => .ok (.int .i64 (Int.ofNat n), h)
    | .sl b off _ _ _ => ite' (Nat.beq n 0) (.ok (.int .i64 (Int.ofNat n), h)) (storeN h b off cs fun h => .ok (.int .i64 (Int.ofNat n), h))
    | _ => .err [79]
  | _ => .err [80]
noncomputable def makeSl (C : Cx) (t : TypeId) (l c : AV) (h : H) : E (AV × H) := (und C t).bd fun u => match u with
  | .slice e => (int1 l).bd fun l => (int1 c).bd fun c => chk (decide (0 ≤ l) && decide (l ≤ c) && decide (c < 1000000)) 81 <|
    (info C e).bd fun ie => chk (Nat.blt ie.bytes 1000000) 82 <| (sz C e).bd fun s => (zeroV C e).bd fun z =>
    fN c.toNat fun c => fN l.toNat fun l => chk (Nat.beq (cellsV z).length s) 83 <| fLs (repL c (cellsV z)) fun cs => newO h (.cells cs e false true false) fun b h => .ok (.sl b 0 0 l (.kn c), h)
  | _ => .err [84]
noncomputable def convV (C : Cx) (src dst : TypeId) (x : AV) (h : H) : E (AV × H) := (und C src).bd fun us => (und C dst).bd fun ud => match us, ud, x with
  | _, .int k, .int _ n => (mkI k (k.wrap n)).bd fun v => .ok (v, h)
  | _, .string, .str s => .ok (.str s, h)
  | _, .slice e, .str s => (und C e).bd fun ue => (match ue with
    | .int .u8 => (mapE (fun b => E.ok (AV.int .u8 (Int.ofNat b))) s).bd fun cs => newO h (.cells cs e true false false) fun b h => fN s.length fun n => .ok (.sl b 0 0 n (.op 1), h)
    | _ => .err [85])
  | .slice e, .string, .nils => (und C e).bd fun ue => (match ue with | .int .u8 => .ok (.str [], h) | _ => .err [86])
  | .slice e, .string, .sl b off _ len _ => (und C e).bd fun ue => (match ue with
    | .int .u8 => (ite' (Nat.beq len 0) (.ok []) (loadN h b off len)).bd fun cs => (mapE (fun c => match c with | .int .u8 n => fN n.toNat fun n => chk (Nat.blt n 256) 87 (.ok n) | _ => .err [88]) cs).bd fun l => .ok (.str l, h)
    | _ => .err [89])
  | _, _, _ => .err [90]

/-! ### Maps -/
noncomputable def keyEq (C : Cx) (h : H) (t : TypeId) (a b : AV) : E Bool := (und C t).bd fun u => match u, a, b with
  | .int _, .int k a, .int k' b => chk (k == k') 91 (.ok (a == b))
  | .string, .str a, .str b => fN (cmpL a b) fun c => .ok (Nat.beq c 1)
  | .pointer e, .ptr b o, .ptr b' o' => (sz C e).bd fun n => chk (!Nat.beq n 0) 92 (ptrEq h b o b' o')
  | _, _, _ => .err [93]
/-- A key's type, of which no key can fail. -/
noncomputable def keyChk (C : Cx) (t : TypeId) : E Bool := (und C t).bd fun u => match u with
  | .int _ => .ok true
  | .string => .ok true
  | .pointer _ => .ok true
  | _ => .err [135]
/-- Where a key stands. -/
noncomputable def findK (eq : AV → E Bool) (es : List Ent) : Nat → E (Option (Nat × AV)) :=
  List.rec (motive := fun _ => Nat → E (Option (Nat × AV))) (fun _ => .ok none) (fun (e : Ent) _ ih i => (eq e.k).bd fun b => ite' b (.ok (some (i, e.v))) (fN (i + 1) fun i => nx (ih i))) es
noncomputable def withMap {β : Type} (h : H) (r : Nat) (f : List Ent → Nat → E β) : E β := (getO h r).bd fun o => match o with
  | .map es c => f es c
  | _ => .err [94]
noncomputable def lookV (C : Cx) (t : TypeId) (x i : AV) (ok : Bool) (h : H) : E AV := (und C t).bd fun u => match u with
  | .map kt et => (keyChk C kt).bd fun _ => ((match x with
      | .nilm => .ok none
      | .map r => withMap h r fun es _ => findK (keyEq C h kt i) es 0
      | _ => .err [95]) : E (Option (Nat × AV))).bd fun f => (match f with
      | some (_, v) => .ok (if ok then .tup [v, .bool true] else v)
      | none => (zeroV C et).bd fun z => .ok (if ok then .tup [z, .bool false] else z))
  | _ => .err [96]
noncomputable def modL {γ : Type} (es : List Ent) (i : Nat) (v : AV) (k : List Ent → E γ) : E γ := (ofOpt 97 (nth es i)).bd fun e => setL es i ⟨e.k, v, e.born⟩ k
noncomputable def mapUpd (C : Cx) (t : TypeId) (m key v : AV) (h : H) : E H := (und C t).bd fun u => match u, m with
  | .map kt _, .map r => (keyChk C kt).bd fun _ => withMap h r fun es c => (findK (keyEq C h kt key) es 0).bd fun f => (match f with
      | some (i, _) => modL es i v fun es => setO h r (.map es c) .ok
      | none => fN (c + 1) fun c' => fLs (es ++ [⟨key, v, c⟩]) fun es => setO h r (.map es c') .ok)
  | _, _ => .err [98]
noncomputable def delV (C : Cx) (ts : List TypeId) (m key : AV) (h : H) : E H := (ofOpt 99 (nth ts 0)).bd fun t => (und C t).bd fun u => match u, m with
  | .map kt _, .nilm => (keyChk C kt).bd fun _ => .ok h
  | .map kt _, .map r => (keyChk C kt).bd fun _ => withMap h r fun es c => (findK (keyEq C h kt key) es 0).bd fun f => (match f with
      | some (i, _) => fLs (es.eraseIdx i) fun es => setO h r (.map es c) .ok
      | none => .ok h)
  | _, _ => .err [100]
noncomputable def rangeV (C : Cx) (t : TypeId) (x : AV) (h : H) : E (AV × H) := (und C t).bd fun u => match u, x with
  | .map _ _, .nilm => newO h (.mit none 0 [] 0) fun b h => .ok (.ptr b 0, h)
  | .map _ _, .map r => withMap h r fun _ c => newO h (.mit (some r) c [] c) fun b h => .ok (.ptr b 0, h)
  | .string, .str s => newO h (.sit s 0) fun b h => .ok (.ptr b 0, h)
  | _, _ => .err [101]
/-- The next entry: only where at most one can come. -/
noncomputable def nextM (x : AV) (h : H) : E (AV × H) := match x with
  | .ptr r 0 => (getO h r).bd fun o => (match o with
    | .mit none _ _ _ => .ok (.tup [.bool false], h)
    | .mit (some m) since seen _ => withMap h m fun es c =>
        -- nothing new may have come since
        chk (Nat.ble since c && allB (fun e => Nat.blt e.born since) es) 103 <|
        (match es.filter fun e => !memN seen e.born with
        | [] => .ok (.tup [.bool false], h)
        | [e] => setO h r (.mit (some m) since (seen ++ [e.born]) c) fun h => .ok (.tup [.bool true, e.k, e.v], h)
        | _ => .err [104])
    | _ => .err [105])
  | _ => .err [106]

/-- The next letter of a string: only where it is of one byte. -/
noncomputable def nextS (x : AV) (h : H) : E (AV × H) := match x with
  | .ptr r 0 => (getO h r).bd fun o => (match o with
    | .sit s p => (match nth s p with
      | none => .ok (.tup [.bool false], h)
      | some b => chk (Nat.blt b 128) 107 <| fN (p + 1) fun q => setO h r (.sit s q) fun h => .ok (.tup [.bool true, .int .i64 (Int.ofNat p), .int .i32 (Int.ofNat b)], h))
    | _ => .err [108])
  | _ => .err [109]
noncomputable def nextV (x : AV) (isStr : Bool) (h : H) : E (AV × H) := ite' isStr (nextS x h) (nextM x h)

/-! ### What is built -/
noncomputable def fillV (pl : Nat → E (Nat × Nat)) (parts : List (Nat × AV)) : List AV → E (List AV) :=
  List.rec (motive := fun _ => List AV → E (List AV)) (fun cs => .ok cs) (fun p _ ih cs =>
    (pl p.1).bd2 fun off n => chk (Nat.beq (cellsV p.2).length n && Nat.blt 0 n) 111 <| overL cs off (cellsV p.2) fun cs => nx (ih cs)) parts
noncomputable def placeA (w : Nat) (i : Nat) : E (Nat × Nat) := fN (i * w) fun o => .ok (o, w)
noncomputable def placesS (C : Cx) (fs : List Field) : E (List (Nat × Nat)) := mapE (fun (f : Field) => (sz C f.type).bd fun n => .ok (f.offset, n)) fs
noncomputable def buildV (C : Cx) (t : TypeId) (parts : List (Nat × AV)) : E AV := (zeroV C t).bd fun z => (und C t).bd fun u => match u with
  | .struct fs => (placesS C fs.toList).bd fun pl => (fillV (fun i => ofOpt 110 (nth pl i)) parts (cellsV z)).bd fun cs => .ok (.agg cs)
  | .array _ e => (sz C e).bd fun w => (fillV (placeA w) parts (cellsV z)).bd fun cs => .ok (.agg cs)
  | _ => .err [113]
noncomputable def buildSl (C : Cx) (t : TypeId) (len : Nat) (parts : List (Nat × AV)) (h : H) : E (AV × H) := (und C t).bd fun u => match u with
  | .slice e => (sz C e).bd fun w => ite' (Nat.beq len 0) (match parts with
    | [] => newO h (.cells [] e false true false) fun b h => .ok (.sl b 0 0 0 (.kn 0), h)
    | _ => .err [136]) <| chk (Nat.ble (len * w) 16777216 && Nat.blt 0 (len * w)) 114 <| (zeroV C e).bd fun z => chk (Nat.beq (cellsV z).length w) 115 <|
      (fillV (placeA w) parts (repL len (cellsV z))).bd fun cs => chk (Nat.beq cs.length (len * w)) 116 <| newO h (.cells cs e false true false) fun b h => .ok (.sl b 0 0 len (.kn len), h)
  | _ => .err [117]
noncomputable def fieldA (C : Cx) (t : TypeId) (x : AV) (f : Nat) : E AV := (und C t).bd fun u => match u, x with
  | .struct fs, .ptr b o => (ofOpt 117 (nth fs.toList f)).bd fun f => (sz C f.type).bd fun n => chk (!Nat.beq n 0) 118 (fN (o + f.offset) fun o => .ok (.ptr b o))
  | _, _ => .err [119]
noncomputable def fieldV (C : Cx) (t : TypeId) (x : AV) (f : Nat) : E AV := (und C t).bd fun u => match u, x with
  | .struct fs, .agg cs => (ofOpt 120 (nth fs.toList f)).bd fun f => partV C f.type cs f.offset
  | _, _ => .err [121]

/-! ### Builtins -/
noncomputable def lenB (C : Cx) (ts : List TypeId) (x : AV) (h : H) : E AV := (ofOpt 122 (nth ts 0)).bd fun t => (und C t).bd fun u => match u, x with
  | .string, .str s => fN s.length fun n => .ok (.int .i64 (Int.ofNat n))
  | .array n _, _ => .ok (.int .i64 (Int.ofNat n))
  | .pointer a, _ => (und C a).bd fun u => (match u with | .array n _ => .ok (.int .i64 (Int.ofNat n)) | _ => .err [123])
  | .slice _, .nils => .ok (.int .i64 0)
  | .slice _, .sl _ _ _ len _ => .ok (.int .i64 (Int.ofNat len))
  | .map _ _, .nilm => .ok (.int .i64 0)
  | .map _ _, .map r => withMap h r fun es _ => fN es.length fun n => .ok (.int .i64 (Int.ofNat n))
  | _, _ => .err [124]
noncomputable def capB (x : AV) : E AV := match x with
  | .nils => .ok (.int .i64 0)
  | .sl _ _ _ _ (.kn c) => .ok (.int .i64 (Int.ofNat c))
  | .sl _ _ _ _ (.zc _) => .ok (.int .i64 0)
  | _ => .err [125]
noncomputable def ext2 (isMax : Bool) (x y : AV) : E AV := match x, y with
  | .int k a, .int _ b => ite' isMax (mkI k (if b > a then b else a)) (mkI k (if b < a then b else a))
  | _, _ => .err [126]
noncomputable def extB (isMax : Bool) (x : AV) (rest : List AV) : E AV :=
  List.rec (motive := fun _ => AV → E AV) (fun x => .ok x) (fun y _ ih x => (ext2 isMax x y).bd fun x => ih x) rest x
noncomputable def clearV (C : Cx) (ts : List TypeId) (x : AV) (h : H) : E H := (ofOpt 127 (nth ts 0)).bd fun t => (und C t).bd fun u => match u, x with
  | .map _ _, .nilm => .ok h
  | .map _ _, .map r => withMap h r fun _ c => setO h r (.map [] c) .ok
  | .slice _, .nils => .ok h
  | .slice e, .sl b off _ len _ => ite' (Nat.beq len 0) (.ok h) <| (sz C e).bd fun w => (zeroV C e).bd fun z => chk (Nat.beq (cellsV z).length w && Nat.blt 0 w) 128 <| fLs (repL len (cellsV z)) fun cs => storeN h b off cs .ok
  | _, _ => .err [129]
noncomputable def biV (C : Cx) (b : Builtin) (ts : List TypeId) (args : List AV) (h : H) : E (AV × H) := match b, args with
  | .append, [s, x] => appendV C ts s x h
  | .len, [x] => (lenB C ts x h).bd fun v => .ok (v, h)
  | .cap, [x] => (ofOpt 130 (nth ts 0)).bd fun t => (und C t).bd fun u => (match u with | .slice _ => (capB x).bd fun v => .ok (v, h) | _ => .err [131])
  | .max, x :: rest => (extB true x rest).bd fun v => .ok (v, h)
  | .min, x :: rest => (extB false x rest).bd fun v => .ok (v, h)
  | .copy, [d, s] => copyV C ts d s h
  | .delete, [m, k] => (delV C ts m k h).bd fun h => .ok (.tup [], h)
  | .clear, [x] => (clearV C ts x h).bd fun h => .ok (.tup [], h)
  | _, _ => .err [132]
end Go.Eng
