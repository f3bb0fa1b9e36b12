/- The abstract evaluator, part 3: one operation, regions, code, calls. -/
import Derived.Test.YtbbojdjgabdjmaaGreatDoorEngOps
namespace Go.Eng
open Go

inductive X where
  | nrm
  | exit (id : Nat)
  | ret
/-- What an operation comes to. -/
inductive Nx where
  | val (v : AV) (h : H)
  | enter (f : FuncId) (args : List AV) (h : H)
  | round (l : Nat) (args : List AV) (h : H)
noncomputable def evTmp (t : Tmp) (fr : Fr) : E AV := Fr.rec (motive := fun _ => E AV) (fun _ n ts _ _ => chk (Nat.blt t n) 221 (.ok (T3.get ts t))) fr
noncomputable def evOx (x : Operand) : Fr → E AV := Operand.rec (motive := fun _ => Fr → E AV) evTmp (fun v _ => ofV v) (fun g _ => chk (Nat.blt g 4096) 222 (.ok (.ptr g 0))) (fun f _ => .ok (.func (.func f) [] [])) x
noncomputable def evO (fr : Fr) (x : Operand) : E AV := evOx x fr
noncomputable def evOs (fr : Fr) (l : List Operand) : E (List AV) := mapE (evO fr) l
noncomputable def evOpt (fr : Fr) (x : Option Operand) : E (Option AV) := match x with | none => .ok none | some x => (evO fr x).bd fun v => .ok (some v)
noncomputable def val (h : H) (m : E AV) : E Nx := m.bd fun v => .ok (.val v h)
noncomputable def valH (m : E (AV × H)) : E Nx := m.bd2 fun v h => .ok (.val v h)
noncomputable def unit (m : E H) : E Nx := m.bd fun h => .ok (.val (.tup []) h)
noncomputable def ptrOf (v : AV) : E (Nat × Nat) := match v with | .ptr b o => .ok (b, o) | _ => .err [200]
noncomputable def callV (f : AV) (args : List AV) (h : H) : E Nx := match f with
  | .func (.func f) first cap => .ok (.enter f (first ++ args ++ cap) h)
  | .func (.yield l) first _ => .ok (.round l (first ++ args) h)
  | _ => .err [201]
noncomputable def nilChk (v : AV) : E AV := match v with
  | .nilp => .err [202]
  | .nili => .err [203]
  | .nilf => .err [204]
  | .func (.method _) _ _ => .err [205]
  | v => .ok v
noncomputable def mkIface (C : Cx) (t : TypeId) (v : AV) : E AV := (und C t).bd fun u => match u with | .interface _ => .err [206] | _ => .ok (.iface t v)
noncomputable def assertV (C : Cx) (v : AV) (t : TypeId) (ok : Bool) : E AV := (und C t).bd fun u => match u, v with
  | .interface _, _ => .err [207]
  | _, .iface t' x => ite' (Nat.beq t' t) (.ok (if ok then .tup [x, .bool true] else x)) (if ok then (zeroV C t).bd fun z => .ok (.tup [z, .bool false]) else .err [208])
  | _, .nili => if ok then (zeroV C t).bd fun z => .ok (.tup [z, .bool false]) else .err [208]
  | _, _ => .err [209]
noncomputable def extrV (v : AV) (i : Nat) : E AV := match v with | .tup vs => ofOpt 210 (nth vs i) | _ => .err [211]
/-- An operation's evaluation: what it reads is handed over last, so that the kernel copies none of the others. -/
abbrev OpM := Cx → Fr → H → E Nx
noncomputable def oMove (x : Operand) : OpM := fun _ fr h => val h (evO fr x)
noncomputable def oPick (c a b : Operand) : OpM := fun _ fr h => (evO fr c).bd fun c => (boolOf c).bd fun c => val h (ite' c (evO fr a) (evO fr b))
noncomputable def oAlloc (e : TypeId) : OpM := fun C _ h => (zeroV C e).bd fun z => newO h (.cells (cellsV z) e false true false) fun b h => .ok (.val (.ptr b 0) h)
noncomputable def oBox (e : TypeId) (x : Operand) : OpM := fun _ fr h => (evO fr x).bd fun v => newO h (.cells (cellsV v) e false true false) fun b h => .ok (.val (.ptr b 0) h)
noncomputable def evPs (fr : Fr) (ps : List (Nat × Operand)) : E (List (Nat × AV)) := mapE (fun (p : Nat × Operand) => (evO fr p.2).bd fun v => .ok (p.1, v)) ps
noncomputable def oBuild (t : TypeId) (ps : Array (Nat × Operand)) : OpM := fun C fr h => (evPs fr ps.toList).bd fun ps => val h (buildV C t ps)
noncomputable def oBuildSl (t : TypeId) (n : Nat) (ps : Array (Nat × Operand)) : OpM := fun C fr h => (evPs fr ps.toList).bd fun ps => valH (buildSl C t n ps h)
noncomputable def oUpd (t : TypeId) (m k x : Operand) : OpM := fun C fr h => (evO fr m).bd fun m => (evO fr k).bd fun k => (evO fr x).bd fun x => unit (mapUpd C t m k x h)
noncomputable def oLoad (t : TypeId) (a : Operand) : OpM := fun C fr h => (evO fr a).bd fun a => (ptrOf a).bd2 fun b o => val h (loadT C t b o h)
noncomputable def oStore (t : TypeId) (a x : Operand) : OpM := fun C fr h => (evO fr a).bd fun a => (ptrOf a).bd2 fun b o => (evO fr x).bd fun v => storeT C t b o v h fun h => .ok (.val (.tup []) h)
noncomputable def oNil (x : Operand) : OpM := fun _ fr h => (evO fr x).bd fun v => val h (nilChk v)
noncomputable def oBin (op : BinOp) (t : TypeId) (x y : Operand) : OpM := fun C fr h => (evO fr x).bd fun x => (evO fr y).bd fun y => val h (binV C h op t x y)
noncomputable def oUn (op : UnOp) (x : Operand) : OpM := fun _ fr h => (evO fr x).bd fun x => val h (unV op x)
noncomputable def oConv (s d : TypeId) (x : Operand) : OpM := fun C fr h => (evO fr x).bd fun x => valH (convV C s d x h)
noncomputable def oIface (t : TypeId) (x : Operand) : OpM := fun C fr h => (evO fr x).bd fun x => val h (mkIface C t x)
noncomputable def oFunc (fn : Fn) (first cap : Array Operand) : OpM := fun _ fr h => (evOs fr first.toList).bd fun a => (evOs fr cap.toList).bd fun c => chk (match fn with | .func _ => true | _ => false) 224 <| val h (.ok (.func fn a c))
noncomputable def oMakeMap (r : Option Operand) : OpM := fun _ _ h => match r with
  | none => newO h (.map [] 0) fun b h => .ok (.val (.map b) h)
  | some _ => .err [214]
noncomputable def oMakeSl (t : TypeId) (l c : Operand) : OpM := fun C fr h => (evO fr l).bd fun l => (evO fr c).bd fun c => valH (makeSl C t l c h)
noncomputable def oSlice (t : TypeId) (x : Operand) (lo hi mx : Option Operand) : OpM := fun C fr h => (evO fr x).bd fun x => (evOpt fr lo).bd fun lo => (evOpt fr hi).bd fun hi => (evOpt fr mx).bd fun mx => chk (match hi, mx with | none, some _ => false | _, _ => true) 223 <| val h (sliceV C t x lo hi mx h)
noncomputable def oFieldA (t : TypeId) (x : Operand) (f : Nat) : OpM := fun C fr h => (evO fr x).bd fun x => val h (fieldA C t x f)
noncomputable def oField (t : TypeId) (x : Operand) (f : Nat) : OpM := fun C fr h => (evO fr x).bd fun x => val h (fieldV C t x f)
noncomputable def oIdxA (t : TypeId) (x i : Operand) : OpM := fun C fr h => (evO fr x).bd fun x => (evO fr i).bd fun i => val h (idxAddr C t x i)
noncomputable def oIdx (t : TypeId) (x i : Operand) : OpM := fun C fr h => (evO fr x).bd fun x => (evO fr i).bd fun i => val h (idxV C t x i)
noncomputable def oLook (t : TypeId) (x i : Operand) (ok : Bool) : OpM := fun C fr h => (evO fr x).bd fun x => (evO fr i).bd fun i => val h (lookV C t x i ok h)
noncomputable def oRange (t : TypeId) (x : Operand) : OpM := fun C fr h => (evO fr x).bd fun x => valH (rangeV C t x h)
noncomputable def oNext (it : Operand) (s : Bool) : OpM := fun _ fr h => (evO fr it).bd fun it => valH (nextV it s h)
noncomputable def oAssert (x : Operand) (t : TypeId) (ok : Bool) : OpM := fun C fr h => (evO fr x).bd fun x => val h (assertV C x t ok)
noncomputable def oExtr (x : Operand) (i : Nat) : OpM := fun _ fr h => (evO fr x).bd fun x => val h (extrV x i)
noncomputable def oCallee (c : Callee) : List TypeId → List AV → OpM := match c with
  | .builtin b => fun ts args C _ h => valH (biV C b ts args h)
  | .value f => fun _ args _ fr h => (evO fr f).bd fun f => callV f args h
  | .invoke _ _ => fun _ _ _ _ _ => .err [212]
noncomputable def oCall (c : Call) : OpM := fun C fr h => (evOs fr c.args.toList).bd fun args => oCallee c.callee c.argTypes.toList args C fr h
noncomputable def oNone (n : Nat) : OpM := fun _ _ _ => .err [213, n]
noncomputable def opE (o : Op) : OpM := Op.rec (motive := fun _ => OpM)
  oMove oMove oPick oAlloc oBox oBuild oBuildSl oUpd oLoad oStore
  (fun _ => oNone 1) (fun _ => oNone 2) oNil (fun op t x y _ => oBin op t x y) (fun op _ x => oUn op x) oConv (fun _ _ => oNone 3) oIface oFunc
  (fun _ r => oMakeMap r) (fun _ _ => oNone 4) oMakeSl oSlice oFieldA oField oIdxA oIdx oLook oUpd
  (fun _ _ _ => oNone 5) (fun _ _ _ _ => oNone 6) oRange oNext (fun _ => oNone 7) (fun x _ t ok => oAssert x t ok) oExtr oCall
  (fun _ => oNone 8) (fun _ => oNone 9) (fun _ => oNone 10) (fun _ _ => oNone 11) (fun _ _ _ => oNone 12) (fun _ _ => oNone 13) o

/-! ### Regions -/
noncomputable def putF {γ : Type} (fr : Fr) (d : Option Tmp) (v : AV) (k : Fr → E γ) : E γ := match d with
  | none => k fr
  | some d => Fr.rec (motive := fun _ => E γ) (fun fn n t rnd defs => chk (Nat.blt d n) 220 <| T3.set t d v fun t => k ⟨fn, n, t, rnd, defs⟩) fr
noncomputable def isB (v : AV) (w : Bool) : Bool := match v with | .bool b => ite' b w (!w) | _ => false
noncomputable def wantedV (ops : List Oper) (fr : Fr) (o : Oper) : Bool := match o.guard with
  | none => true
  | some (j, w) => match nth ops j with
    | none => false
    | some g => match g.dst with
      | none => false
      | some d => Fr.rec (motive := fun _ => Bool) (fun _ n t _ _ => ite' (Nat.blt d n) (isB (T3.get t d) w) false) fr
/-- One operation, calls and all. -/
noncomputable def oneV (C : Cx) (call : FuncId → List AV → H → E (AV × H)) (round : Nat → List AV → H → E (AV × H)) (fr : Fr) (h : H) (o : Oper) : E (AV × H) :=
  (opE o.op C fr h).bd fun x => Nx.rec (motive := fun _ => E (AV × H)) (fun v h => .ok (v, h)) (fun f args h => call f args h) (fun l args h => round l args h) x
noncomputable def opsV (C : Cx) (call : FuncId → List AV → H → E (AV × H)) (round : Nat → List AV → H → E (AV × H)) (all : List Oper) (l : List Oper) : Fr → H → E (Fr × H) :=
  List.rec (motive := fun _ => Fr → H → E (Fr × H)) (fun fr h => .ok (fr, h))
    (fun o _ ih fr h => ite' (wantedV all fr o)
      ((oneV C call round fr h o).bd2 fun v h => putF fr o.dst v fun fr => nx (ih fr h))
      (putF fr o.dst (.tup []) fun fr => nx (ih fr h))) l

/-! ### Code -/
structure Ev where
  code : Code → Fr → H → E (X × Fr × H)
  call : FuncId → List AV → H → E (AV × H)
noncomputable def withLoop {β : Type} (h : H) (l : Nat) (f : LoopState → Option Code → FuncId → Nat → T3 AV → List Nat → Code → Code → Nat → E β) : E β := (getO h l).bd fun o => match o with
  | .loop st pend fn n t ps as body d => f st pend fn n t ps as body d
  | _ => .err [230, l]
noncomputable def setTs {γ : Type} (n : Nat) (ps : List Nat) : List AV → T3 AV → (T3 AV → E γ) → E γ :=
  List.rec (motive := fun _ => List AV → T3 AV → (T3 AV → E γ) → E γ) (fun vs t k => List.rec (motive := fun _ => E γ) (k t) (fun _ _ _ => .err [231]) vs)
    (fun p _ ih vs t k => List.rec (motive := fun _ => E γ) (.err [232]) (fun v vs _ => chk (Nat.blt p n) 233 <| T3.set t p v fun t => nx (ih vs t k)) vs) ps
/-- The body of a loop over a function, once. -/
noncomputable def roundV (code : Code → Fr → H → E (X × Fr × H)) (l : Nat) (args : List AV) (h : H) : E (AV × H) :=
  withLoop h l fun _ _ fn n t ps as body _ => setTs n ps args t fun t =>
    (code as ⟨fn, n, t, some l, []⟩ h).bd3 fun x fr h => match x with
      | .nrm => withLoop h l fun st pend fn n t ps as' body' d => (match st with
        | .ready => setO h l (.loop .busy pend fn n t ps as' body' d) fun h => (code body fr h).bd3 fun x fr' h => (match fr'.defs with
            | [] => withLoop h l fun _ _ fn n t ps as' body' d => (match x with
              | .nrm => setO h l (.loop .ready none fn n t ps as' body' d) fun h => .ok (.bool true, h)
              | .ret => setO h l (.loop .done (some .ret) fn n t ps as' body' d) fun h => .ok (.bool false, h)
              | .exit i => setO h l (.loop .done (some (.exit i)) fn n t ps as' body' d) fun h => .ok (.bool false, h))
            | _ => .err [234])
        | _ => .err [235])
      | _ => .err [236]
noncomputable def resV (C : Cx) (r : ResultVar) (fr : Fr) (h : H) : E AV := match r with
  | .tmp t => evO fr (.tmp t)
  | .cell a t => (evO fr (.tmp a)).bd fun p => (ptrOf p).bd2 fun b o => loadT C t b o h
/-- Behind the body: the results; the marks of loops over functions. -/
noncomputable def leaveV (C : Cx) (f : Func) (fr : Fr) (h : H) : E (AV × H) :=
  -- the marks: each block is shut
  (List.rec (motive := fun _ => H → E H) (fun h => .ok h) (fun b _ ih h => (getO h b).bd fun o => match o with | .dfr => setO h b .dead fun h => nx (ih h) | _ => .err [237]) fr.defs h).bd fun h =>
  (mapE (fun r => resV C r fr h) f.results.toList).bd fun vs => match vs with
    | [v] => .ok (v, h)
    | vs => .ok (.tup vs, h)
noncomputable def argsT {γ : Type} (args : List AV) : Nat → T3 AV → (T3 AV → E γ) → E γ :=
  List.rec (motive := fun _ => Nat → T3 AV → (T3 AV → E γ) → E γ) (fun _ t k => k t) (fun v _ ih i t k => T3.set t i v fun t => fN (i + 1) fun i => nx (ih i t k)) args
noncomputable def emp : T3 AV := T3.rep (.tup [])
noncomputable def tag {α : Type} (f : Nat) (m : E α) : E α := E.rec (motive := fun _ => E α) (fun a => .ok a) (fun l => .err (f :: l)) m
noncomputable def callEv (C : Cx) (code : Code → Fr → H → E (X × Fr × H)) (f : FuncId) (args : List AV) (h : H) : E (AV × H) :=
  match C.gam f with
  | some g => g args h
  | none => (ofOpt 240 (C.fn.get f)).bd fun fn => match fn.body with
    | none => .err [241, f]
    | some c => tag f <| chk (Nat.ble args.length fn.ntmps && Nat.ble fn.ntmps 512) 242 <| argsT args 0 emp fun t => (code c ⟨f, fn.ntmps, t, none, []⟩ h).bd3 fun x fr h => match x with
      | .exit _ => .err [243]
      | _ => leaveV C fn fr h
abbrev Drawn := (FuncId → List AV → H → E (AV × H)) → (Nat → List AV → H → E (AV × H)) → Array Oper → Fr → H → E (Fr × H)
abbrev CodeM := Cx → Drawn → Ev → Fr → H → E (X × Fr × H)
noncomputable def cRegion (ops : Array Oper) (d : Bool) : CodeM := fun C drawn p fr h =>
  (ite' d (drawn p.call (roundV p.code) ops fr h) (opsV C p.call (roundV p.code) ops.toList ops.toList fr h)).bd fun q => .ok (.nrm, q)
noncomputable def thenX (x : X) (q : Fr × H) (k : Fr → H → E (X × Fr × H)) : E (X × Fr × H) :=
  X.rec (motive := fun _ => E (X × Fr × H)) (Prod.rec (motive := fun _ => E (X × Fr × H)) k q) (fun id => .ok (.exit id, q)) (.ok (.ret, q)) x
noncomputable def cSeq (a b : Code) : CodeM := fun _ _ p fr h => (p.code a fr h).bd2 fun x q => thenX x q (p.code b)
noncomputable def cCond (x : Operand) (a b : Code) : CodeM := fun _ _ p fr h => (evO fr x).bd fun v => (boolOf v).bd fun t => ite' t (p.code a fr h) (p.code b fr h)
noncomputable def leftX (id : Nat) (x : X) : X := match x with
  | .exit i => ite' (Nat.beq i id) .nrm (.exit i)
  | x => x
noncomputable def cBlock (id : Nat) (b : Code) : CodeM := fun _ _ p fr h => (p.code b fr h).bd2 fun x q => .ok (leftX id x, q)
noncomputable def cLoop (b : Code) : CodeM := fun _ _ p fr h => (p.code b fr h).bd2 fun x q => thenX x q (p.code (.loop b))
noncomputable def noGamB (C : Cx) (f : FuncId) : Bool := Option.rec (motive := fun _ => Bool) true (fun _ => false) (C.gam f)
noncomputable def cRange (g : Operand) (ps : Array Tmp) (as body : Code) : CodeM := fun C _ p fr h =>
    ((match fr.rnd with
      | some l => withLoop h l fun _ _ _ _ _ _ _ _ d => .ok (d, [], h)
      | none => newO h .dfr fun b h => .ok (b, [b], h)) : E (Nat × List Nat × H)).bd3 fun q q' h =>
    newO h (.loop .ready none fr.fn fr.n fr.t ps.toList as body q) fun l h => (evO fr g).bd fun g => (callV g [.func (.yield l) [] []] h).bd fun x => (match x with
      | .enter f args h => chk (noGamB C f) 259 <| (p.call f args h).bd2 fun _ h => withLoop h l fun st pend fn n t ps as body d => (match st with
        | .busy => .err [250]
        | _ => setO h l (.loop .exhausted pend fn n t ps as body d) fun h => (match pend with
          | none => .ok (.nrm, ⟨fr.fn, fr.n, fr.t, fr.rnd, q' ++ fr.defs⟩, h)
          | some .ret => .ok (.ret, ⟨fr.fn, fr.n, fr.t, fr.rnd, q' ++ fr.defs⟩, h)
          | some (.exit i) => .ok (.exit i, ⟨fr.fn, fr.n, fr.t, fr.rnd, q' ++ fr.defs⟩, h)
          | _ => .err [251]))
      | _ => .err [252])
noncomputable def cX (x : X) : CodeM := fun _ _ _ fr h => .ok (x, fr, h)
noncomputable def cScope (b : Code) : CodeM := fun _ _ p fr h => p.code b fr h
noncomputable def codeEv (c : Code) : CodeM := Code.rec (motive := fun _ => CodeM)
  (cX .nrm) (fun _ ops d => cRegion ops d) (fun a b _ _ => cSeq a b) (fun x a b _ _ => cCond x a b) (fun id b _ => cBlock id b) (fun b _ => cLoop b)
  (fun g ps as body _ _ => cRange g ps as body) (fun id => cX (.exit id)) (fun b _ => cScope b) (fun _ => cX .nrm) (fun _ _ _ _ _ _ => .err [256]) (cX .ret) (fun _ _ _ _ _ _ => .err [253]) c
noncomputable def ev (C : Cx) (drawn : Drawn) (k : Nat) : Ev :=
  Nat.rec (motive := fun _ => Ev) ⟨fun _ _ _ => .err [254], fun _ _ _ => .err [255]⟩ (fun _ p => ⟨fun c => codeEv c C drawn p, callEv C p.code⟩) k
end Go.Eng
