/- Parts of the proof: XDo, XRun, XBase. -/
import Derived.Test.YtlkhkalniekaoaaGreatDoorQaa

set_option linter.unusedVariables false
set_option linter.unusedSimpArgs false

section
/- A reckoner for Go code over named memory: what each operation does. -/
namespace Go.X
noncomputable section
variable {α β : Type}

def putS (d : Nat) (v : V) (tm : Env) (c : Env → R) : R := forceW v fun v => tm.setK d (some v) c
def put0 (_ : V) (tm : Env) (c : Env → R) : R := c tm
def putK (d : Option Tmp) : V → Env → (Env → R) → R := Option.rec (motive := fun _ => V → Env → (Env → R) → R) put0 putS d
def done (o : Oper) (v : V) (k : K) : K := fun tm d t nx => putK o.dst v tm fun tm => k tm d t nx

abbrev Do := Program → CallT → Oper → K → K

def doFail : Do := fun _ _ _ _ _ _ _ _ => .fail

/-! ## Operations that only reckon -/
def doMove (x : Operand) : Do := fun _ _ o k tm d t nx => ev x tm (fun v => done o v k tm d t nx) .fail
def doPick (c a b : Operand) : Do := fun P s o k tm d t nx => ev c tm (fun v => onBool v (doMove a P s o k tm d t nx) (doMove b P s o k tm d t nx) .fail) .fail

def fillL (place : Nat → Option (Nat × Nat)) : List (Nat × V) → List V → Option (List V)
  | [], cells => some cells
  | (i, v) :: rest, cells => oel (place i) (fun os => oel (cellsOf v) (fun c => bel (Nat.beq c.length os.2) (bel (Nat.ble (Nat.add os.1 os.2) cells.length) (fillL place rest (cells.take os.1 ++ (c ++ cells.drop (Nat.add os.1 os.2)))) none) none) none) none
def placeS (P : Program) (fs : List Field) (i : Nat) : Option (Nat × Nat) := oel (nth fs i) (fun f => oel (szO P f.type) (fun s => some (f.offset, s)) none) none
def placeA (s : Nat) (i : Nat) : Option (Nat × Nat) := some (Nat.mul i s, s)
def isStruct : TypeDesc → Bool
  | .struct _ => true
  | _ => false
def placesOk (P : Program) (fs : List Field) : Bool := List.rec (motive := fun _ => Bool) true (fun f _ ih => oel (szO P f.type) (fun _ => ih) false) fs
def buildPlace (P : Program) (t : TypeId) : Option (Nat → Option (Nat × Nat)) :=
  bel (isStruct (und P t)) (bel (placesOk P (fieldsOf (und P t))) (some (placeS P (fieldsOf (und P t)))) none) (oel (arrElem P t) (fun e => some (placeA e.2.2)) none)
def doBuild (t : TypeId) (ps : Array (Nat × Operand)) : Do := fun P _ o k tm d tt nx =>
  evParts ps.toList tm (fun l => oel (zeroV P t) (fun z => onAgg z (fun z => oel (buildPlace P t) (fun pl => oel (fillL pl l z) (fun cs => done o (.agg cs) k tm d tt nx) .fail) .fail) .fail) .fail) .fail

def doNil (x : Operand) : Do := fun _ _ o k tm d t nx =>
  ev x tm (fun v => onPtr v (fun b i => done o (.ptr b i) k tm d t nx) (onFn v (fun f a c => done o (.fn f a c) k tm d t nx) .fail)) .fail

/-- '==' by a type: what is no struct. -/
def eqBy (P : Program) (d : TypeDesc) (v w : V) : Option Bool :=
  match d with
  | .bool => onBool v (onBool w (some true) (some false) none) (onBool w (some false) (some true) none) none
  | .int _ => onInt v (fun j a => onInt w (fun k b => bel (sameKind j k) (some (eqI a b)) none) none) none
  | .string => onStr v (fun la a => onStr w (fun lb b => some (strEq la a lb b)) none) none
  | .pointer e => bel (Nat.beq (sz P e) 0) none (match v, w with
    | .nilp, .nilp => some true
    | .nilp, .ptr _ _ => some false
    | .ptr _ _, .nilp => some false
    | .ptr a i, .ptr b j => bel (Nat.beq a b) (some (Nat.beq i j)) none
    | _, _ => none)
  | .slice _ => (match v, w with
    | .nils, .nils => some true
    | .nils, .sl .. => some false
    | .sl .., .nils => some false
    | _, _ => none)
  | .map _ _ => (match v, w with
    | .nilm, .nilm => some true
    | .nilm, .map _ => some false
    | .map _, .nilm => some false
    | _, _ => none)
  | .func _ _ _ => (match v, w with
    | .nilf, .nilf => some true
    | .nilf, .fn .. => some false
    | .fn .., .nilf => some false
    | _, _ => none)
  | .interface _ => (match v, w with
    | .nili, .iface _ _ => some false
    | .iface _ _, .nili => some false
    | _, _ => none)
  | _ => none
/-- A struct's fields, one cell each. -/
def eqFields (P : Program) : List Field → Nat → List V → List V → Option Bool
  | [], _, _, _ => some true
  | f :: fs, i, v :: l, w :: m =>
    bel (andB (Nat.beq f.offset i) (andB (Nat.beq (sz P f.type) 1) (notB (aggB P f.type))))
      (bel (decide (f.name = "_")) (eqFields P fs (Nat.succ i) l m) (oel (eqBy P (und P f.type) v w) (fun b => bel b (eqFields P fs (Nat.succ i) l m) (some false)) none)) none
  | _, _, _, _ => none
/-- An array's elements, one cell each. -/
def eqElems (P : Program) (d : TypeDesc) : Nat → List V → List V → Option Bool
  | 0, _, _ => some true
  | n + 1, v :: l, w :: m => oel (eqBy P d v w) (fun b => bel b (eqElems P d n l m) (some false)) none
  | _, _, _ => none
def eqArr (P : Program) (t : TypeId) (v w : V) (n : Nat) (e : TypeId) : Option Bool :=
  bel (andB (Nat.beq (sz P e) 1) (andB (notB (aggB P e)) (notB (P.eqGuardType P.depth t)))) (onAgg v (fun l => onAgg w (fun m => eqElems P (und P e) n l m) none) none) none
def plainStruct (P : Program) (t : TypeId) : Bool :=
  andB (isStruct (und P t)) (andB (notB (P.stoodInHeld t)) (notB (P.eqGuardType P.depth t)))
def eqT (P : Program) (t : TypeId) (v w : V) : Option Bool :=
  bel (isStruct (und P t)) (bel (plainStruct P t) (onAgg v (fun l => onAgg w (fun m => eqFields P (fieldsOf (und P t)) 0 l m) none) none) none)
    (oel (elemOfArr (und P t)) (fun e => eqArr P t v w e.1 e.2) (eqBy P (und P t) v w))
def isConst : Operand → Bool
  | .const _ => true
  | _ => false
/-- nil held against nil: at an interface type where the one is the word nil. -/
def nilNil (P : Program) (t : TypeId) (x y : Operand) (v w : V) : Option Bool :=
  match v, w with
  | .nili, .nili => bel (isIface (und P t)) (bel (isConst x) (some true) (bel (isConst y) (some true) none)) none
  | _, _ => none
def eqX (P : Program) (t : TypeId) (x y : Operand) (v w : V) : Option Bool := oel (nilNil P t x y v w) some (eqT P t v w)

abbrev BG := Program → TypeId → Operand → Operand → V → V → (V → R) → R
def bgFail : BG := fun _ _ _ _ _ _ _ => .fail
def bgEql : BG := fun P t x y v w c => oel (eqX P t x y v w) (fun b => c (.bool b)) .fail
def bgNeq : BG := fun P t x y v w c => oel (eqX P t x y v w) (fun b => c (.bool (notB b))) .fail
def bgOp (op : BinOp) : BG :=
  BinOp.rec (motive := fun _ => BG) bgFail bgFail bgFail bgFail bgFail bgFail bgFail bgFail bgFail bgFail bgFail bgEql bgNeq bgFail bgFail bgFail bgFail op
def kindOk (op : BinOp) (j k : IntKind) : Bool := bel (isShift op) true (sameKind j k)
def binAll (op : BinOp) : BG := fun P t x y v w c =>
  onInt v (fun j a => onInt w (fun k b => bel (kindOk op j k) (biOp op j a b c .fail) .fail) .fail)
    (onStr v (fun la a => onStr w (fun lb b => bsOp op la a lb b c .fail) .fail) (bgOp op P t x y v w c))
def doBin (op : BinOp) (t : TypeId) (x y : Operand) (_ : TypeId) : Do := fun P _ o k tm d tt nx =>
  ev x tm (fun v => ev y tm (fun w => binAll op P t x y v w fun r => done o r k tm d tt nx) .fail) .fail

def unNeg (v : V) (c : V → R) : R := onInt v (fun k n => biSub k 0 n c .fail) .fail
def unXor (v : V) (c : V → R) : R := onInt v (fun k n => biXor k (bel k.signed (.negSucc 0) k.max) n c .fail) .fail
def unNot (v : V) (c : V → R) : R := onBool v (c (.bool false)) (c (.bool true)) .fail
def unOp (op : UnOp) : V → (V → R) → R := UnOp.rec (motive := fun _ => V → (V → R) → R) unNeg unXor unNot (fun _ _ => .fail) op
def doUn (op : UnOp) (_ : TypeId) (x : Operand) : Do := fun _ _ o k tm d t nx => ev x tm (fun v => unOp op v fun r => done o r k tm d t nx) .fail

def doIface (t : TypeId) (x : Operand) : Do := fun P _ o k tm d tt nx => concD (und P t) .fail (ev x tm (fun v => done o (.iface t v) k tm d tt nx) .fail)
def mfFunc (f : FuncId) (a c : Array Operand) : Do := fun _ _ o k tm d t nx =>
  evs a.toList tm (fun a => evs c.toList tm (fun c => done o (.fn f a c) k tm d t nx) .fail) .fail
def doFunc (f : Fn) (a c : Array Operand) : Do :=
  Fn.rec (motive := fun _ => Array Operand → Array Operand → Do) mfFunc (fun _ _ _ => doFail) (fun _ _ _ _ => doFail) (fun _ _ _ _ _ _ => doFail) (fun _ _ _ => doFail) f a c
def doExtract (x : Operand) (i : Nat) : Do := fun _ _ o k tm d t nx => ev x tm (fun v => onTup v (fun l => oel (nth l i) (fun v => done o v k tm d t nx) .fail) .fail) .fail
def doFieldAddr (s : TypeId) (x : Operand) (i : Nat) : Do := fun P _ o k tm d t nx =>
  ev x tm (fun v => onPtr v (fun b off => oel (fieldAt P s i) (fun f => bel (Nat.beq (sz P f.2) 0) .fail (done o (.ptr b (Nat.add off f.1)) k tm d t nx)) .fail) .fail) .fail
def doField (s : TypeId) (x : Operand) (i : Nat) : Do := fun P _ o k tm d t nx =>
  ev x tm (fun v => onAgg v (fun l => oel (fieldAt P s i) (fun f => mkV P f.2 ((l.drop f.1).take (sz P f.2)) (fun v => done o v k tm d t nx) .fail) .fail) .fail) .fail
def ixSl (P : Program) (t : TypeId) (b off len i : Nat) (c : V → R) : R :=
  oel (slElem P t) (fun e => bel (Nat.ble (Nat.succ i) len) (c (.ptr b (Nat.add off (Nat.mul i e.2)))) .fail) .fail
def ixArr (P : Program) (t : TypeId) (b off i : Nat) (c : V → R) : R :=
  oel (arrElem P t) (fun e => bel (Nat.ble (Nat.succ i) e.1) (c (.ptr b (Nat.add off (Nat.mul i e.2.2)))) .fail) .fail
def doIndexAddr (t : TypeId) (x i : Operand) : Do := fun P _ o k tm d tt nx =>
  ev x tm (fun v => ev i tm (fun w => onNat w (fun i =>
    onPtr v (fun b off => ixArr P t b off i fun r => done o r k tm d tt nx)
      (onSl v .fail (fun b off len _ => ixSl P t b off len i fun r => done o r k tm d tt nx) .fail)) .fail) .fail) .fail
def doIndex (t : TypeId) (x i : Operand) : Do := fun P _ o k tm d tt nx =>
  ev x tm (fun v => ev i tm (fun w => onNat w (fun i =>
    onStr v (fun l n => bel (isStr (und P t)) (bel (Nat.ble (Nat.succ i) l) (done o (.int .u8 (.ofNat (byteAt n i))) k tm d tt nx) .fail) .fail)
      (onAgg v (fun l => oel (arrElem P t) (fun e => bel (Nat.ble (Nat.succ i) e.1) (mkV P e.2.1 ((l.drop (Nat.mul i e.2.2)).take e.2.2) (fun v => done o v k tm d tt nx) .fail) .fail) .fail) .fail)) .fail) .fail) .fail

def slStr (l n : Nat) (lo hi mx : Option Operand) (tm : Env) (c : V → R) : R :=
  oel mx (fun _ => .fail) (bnd lo tm 0 (fun i => bnd hi tm l (fun j => bel (Nat.ble i j) (bel (Nat.ble j l)
    (c (.str (Nat.sub j i) (Nat.mod (Nat.shiftRight n (Nat.mul 8 i)) (Nat.pow 2 (Nat.mul 8 (Nat.sub j i)))))) .fail) .fail) .fail) .fail)
def slNil (lo hi mx : Option Operand) (tm : Env) (c : V → R) : R :=
  bnd lo tm 0 (fun i => bnd hi tm 0 (fun j => bnd mx tm 0 (fun m => bel (Nat.beq i 0) (bel (Nat.beq j 0) (bel (Nat.beq m 0) (c .nils) .fail) .fail) .fail) .fail) .fail) .fail
/-- The place of x[i:j:m]: behind m elements it is the old one. -/
def slOff (m i off s : Nat) : Nat := bel (Nat.beq m i) off (Nat.add off (Nat.mul i s))
def slEx (b off len cap s : Nat) (lo hi mx : Option Operand) (tm : Env) (c : V → R) : R :=
  bnd mx tm cap (fun m => bnd hi tm len (fun j => bnd lo tm 0 (fun i => bel (Nat.ble i j) (bel (Nat.ble j m) (bel (Nat.ble m cap)
    (c (.sl b (slOff m i off s) (Nat.sub j i) (.ex (Nat.sub m i)))) .fail) .fail) .fail) .fail) .fail) .fail
def slUp (b off len e s : Nat) (lo hi mx : Option Operand) (tm : Env) (c : V → R) : R :=
  bnd hi tm len (fun j => bnd lo tm 0 (fun i => bel (Nat.ble i j)
    (oel mx (fun x => bnd (some x) tm 0 (fun m => bel (Nat.ble j m) (bel (Nat.ble m len) (c (.sl b (slOff m i off s) (Nat.sub j i) (.ex (Nat.sub m i)))) .fail) .fail) .fail)
      (bel (Nat.ble j len) (bel (Nat.beq i 0) (c (.sl b off j (.up e)))
        (bel (Nat.ble (Nat.succ i) len) (c (.sl b (Nat.add off (Nat.mul i s)) (Nat.sub j i) (.up (Nat.add e i)))) .fail)) .fail)) .fail) .fail) .fail
def slArr (b off n s : Nat) (lo hi mx : Option Operand) (tm : Env) (c : V → R) : R := slEx b off n n s lo hi mx tm c
/-- A third index stands behind a second one. -/
def mxOk (hi mx : Option Operand) (r : R) : R := oel mx (fun _ => oel hi (fun _ => r) .fail) r
def doSlice (t : TypeId) (x : Operand) (lo hi mx : Option Operand) : Do := fun P _ o k tm d tt nx =>
  mxOk hi mx (ev x tm (fun v =>
    onStr v (fun l n => bel (isStr (und P t)) (slStr l n lo hi mx tm fun r => done o r k tm d tt nx) .fail)
      (onPtr v (fun b off => oel (arrElem P t) (fun e => slArr b off e.1 e.2.2 lo hi mx tm fun r => done o r k tm d tt nx) .fail)
        (oel (slElem P t) (fun e => onSl v (slNil lo hi mx tm fun r => done o r k tm d tt nx)
          (fun b off len cp => onCap cp (fun c => slEx b off len c e.2 lo hi mx tm fun r => done o r k tm d tt nx) (fun e0 => slUp b off len e0 e.2 lo hi mx tm fun r => done o r k tm d tt nx)) .fail) .fail))) .fail)

def doAssert (x : Operand) (_ t : TypeId) (ok : Bool) : Do := fun P _ o k tm d tt nx =>
  bel ok (concD (und P t) .fail (ev x tm (fun v => match v with
    | .iface u w => bel (Nat.beq u t) (done o (.tup [w, .bool true]) k tm d tt nx) (oel (zeroV P t) (fun z => done o (.tup [z, .bool false]) k tm d tt nx) .fail)
    | _ => .fail) .fail)) .fail

/-- The same value, surely. -/
def sameC (v w : V) : Bool :=
  match v, w with
  | .bool a, .bool b => boolEq a b
  | .int j a, .int k b => andB (sameKind j k) (eqI a b)
  | .str la a, .str lb b => andB (Nat.beq la lb) (Nat.beq a b)
  | .ptr a i, .ptr b j => andB (Nat.beq a b) (Nat.beq i j)
  | .nilp, .nilp => true
  | .sl a i m c, .sl b j n d => andB (Nat.beq a b) (andB (Nat.beq i j) (andB (Nat.beq m n) (match c, d with | .ex x, .ex y => Nat.beq x y | .up x, .up y => Nat.beq x y | _, _ => false)))
  | .nils, .nils => true
  | .map a, .map b => Nat.beq a b
  | .nilm, .nilm => true
  | .nilf, .nilf => true
  | .nili, .nili => true
  | _, _ => false
def sameL : List V → List V → Bool
  | [], [] => true
  | v :: l, w :: m => andB (sameC v w) (sameL l m)
  | _, _ => false
def sameV (v w : V) : Bool :=
  match v, w with
  | .agg l, .agg m => sameL l m
  | .fn f a b, .fn g c d => andB (Nat.beq f g) (andB (sameL a c) (sameL b d))
  | .iface t v, .iface u w => andB (Nat.beq t u) (sameC v w)
  | v, w => sameC v w
/-- A value of a key's that is told by its bits. -/
def bitsC (v : V) : Bool := match v with | .bool _ => true | .int _ _ => true | .str _ _ => true | _ => false
def bitsL : List V → Bool
  | [] => true
  | v :: l => andB (bitsC v) (bitsL l)
def bitsV (v : V) : Bool := match v with | .agg l => bitsL l | v => bitsC v
def selfOk (P : Program) (t : TypeId) (k : V) : Bool := oel (eqT P t k k) (fun b => b) false

/-! ## Operations that read memory -/
def findE (P : Program) (t : TypeId) (k : V) : List (V × V × Nat) → Option (Option V)
  | [] => some none
  | e :: r => oel (eqT P t k e.1) (fun b => bel b (some (some e.2.1)) (findE P t k r)) none
def mapAt (t : Hp) (b : Nat) : Option (List (V × V × Nat) × Nat) :=
  oel (t.get b) (fun x => x.sel (fun _ _ _ _ _ => none) (fun es c => some (es, c)) (fun _ => none) (fun _ _ _ => none)) none
def bytesOfL : List V → Option (Nat × Nat)
  | [] => some (0, 0)
  | v :: r => onInt v (fun k n => bel (sameKind k .u8) (Int.rec (motive := fun _ => Option (Nat × Nat)) (fun c => bel (Nat.ble (Nat.succ c) 256) (oel (bytesOfL r) (fun x => some (Nat.succ x.1, Nat.add c (Nat.mul 256 x.2))) none) none) (fun _ => none) n) none) none
def rdLoad (P : Program) (ty : TypeId) (a : Operand) (tm : Env) (t : Hp) : Option V :=
  ev a tm (fun v => onPtr v (fun b off => oel (loadN t b off (sz P ty)) (fun l => mkV P ty l some none) none) none) none
def lookIn (P : Program) (kt e : TypeId) (ok : Bool) (k : V) (es : List (V × V × Nat)) : Option V :=
  oel (findE P kt k es) (fun r => oel r (fun v => some (bel ok (.tup [v, .bool true]) v)) (oel (zeroV P e) (fun z => some (bel ok (.tup [z, .bool false]) z)) none)) none
/-- A key's type that can always be held against another. -/
def plainKey (P : Program) (t : TypeId) : Bool :=
  match und P t with
  | .int _ => true
  | .string => true
  | .bool => true
  | .array _ e => (match und P e with | .int _ => true | _ => false)
  | .struct fs => andB (plainStruct P t) (fs.toList.all fun f => match und P f.type with | .int _ => true | .string => true | .bool => true | _ => false)
  | _ => false
def rdLookup (P : Program) (ty : TypeId) (m k : Operand) (ok : Bool) (tm : Env) (t : Hp) : Option V :=
  oel (mapOf (und P ty)) (fun ke => bel (plainKey P ke.1) (ev m tm (fun v => ev k tm (fun k => bel (selfOk P ke.1 k) (match v with
    | .nilm => lookIn P ke.1 ke.2 ok k []
    | .map b => oel (t.get b) (fun x => x.sel (fun _ _ _ _ _ => none) (fun es _ => lookIn P ke.1 ke.2 ok k es) (fun es => lookIn P ke.1 ke.2 ok k (es.map fun e => (e.1, e.2, 0))) (fun _ _ _ => none)) none
    | _ => none) none) none) none) none) none
def isSl (d : TypeDesc) : Bool := match d with | .slice _ => true | _ => false
def isMap (d : TypeDesc) : Bool := match d with | .map _ _ => true | _ => false
def lenV (d : TypeDesc) (t : Hp) (v : V) : Option V :=
  match v with
  | .str l _ => bel (isStr d) (some (.int .i64 (.ofNat l))) none
  | .sl _ _ n _ => bel (isSl d) (some (.int .i64 (.ofNat n))) none
  | .nils => bel (isSl d) (some (.int .i64 (.ofNat 0))) none
  | .nilm => bel (isMap d) (some (.int .i64 (.ofNat 0))) none
  | .map b => bel (isMap d) (oel (mapAt t b) (fun es => some (.int .i64 (.ofNat es.1.length))) none) none
  | _ => none
def rdLen (P : Program) (args : Array Operand) (tys : Array TypeId) (tm : Env) (t : Hp) : Option V :=
  onList args.toList none fun x _ => onList tys.toList none fun ty _ => ev x tm (fun v => lenV (und P ty) t v) none
/-- []byte as a string. -/
def rdBytes (x : Operand) (tm : Env) (t : Hp) : Option V :=
  ev x tm (fun v => onSl v (some (.str 0 0)) (fun b off len _ => oel (loadN t b off len) (fun l => oel (bytesOfL l) (fun r => some (.str r.1 r.2)) none) none) none) none
def isBytes (P : Program) (t : TypeId) : Bool := oel (slElem P t) (fun e => match und P e.1 with | .int k => sameKind k .u8 | _ => false) false
def isRead (P : Program) (op : Op) : Bool :=
  match op with
  | .load .. => true
  | .lookup .. => true
  | .convert s d _ => andB (isBytes P s) (isStr (und P d))
  | .call ⟨.builtin .len, _, _⟩ => true
  | _ => false
def opR (P : Program) (op : Op) (tm : Env) (t : Hp) : Option V :=
  match op with
  | .load ty a => rdLoad P ty a tm t
  | .lookup ty m k ok => rdLookup P ty m k ok tm t
  | .convert _ _ x => rdBytes x tm t
  | .call ⟨_, args, tys⟩ => rdLen P args tys tm t
  | _ => none
def doLoad (ty : TypeId) (a : Operand) : Do := fun P _ o k tm d t nx => oel (rdLoad P ty a tm t) (fun v => done o v k tm d t nx) .fail
def doLookup (ty : TypeId) (m x : Operand) (ok : Bool) : Do := fun P _ o k tm d t nx => oel (rdLookup P ty m x ok tm t) (fun v => done o v k tm d t nx) .fail

/-! ## Operations that make memory -/
def rowK (ch : Nat) (t : TypeId) (l : List V) (c : Blk → R) : R :=
  forceN ch fun ch => bel (Nat.beq ch 0) (c (.cells t 1 0 0 .nil))
    (forceN (Nat.div l.length ch) fun n => writeMany ch n .nil 0 l fun els => c (.cells t ch n 0 els))
def newK (t : Hp) (nx : Nat) (b : Blk) (c : Hp → Nat → R) : R := t.setK nx (some b) fun t => forceN (Nat.succ nx) fun nx => c t nx
/-- A new row; a value that names it. -/
def mkRow (ch : Nat) (ty : TypeId) (l : List V) (val : Nat → V) (o : Oper) (k : K) : K := fun tm d t nx =>
  rowK ch ty l fun b => newK t nx b fun t nx' => done o (val nx) k tm d t nx'
def ptr0 (b : Nat) : V := .ptr b 0
def doAlloc (ty : TypeId) : Do := fun P _ o k tm d t nx => oel (zeroV P ty) (fun z => oel (cellsOf z) (fun l => mkRow (chunk P ty) ty l ptr0 o k tm d t nx) .fail) .fail
def doBox (ty : TypeId) (x : Operand) : Do := fun P _ o k tm d t nx => ev x tm (fun v => oel (cellsOf v) (fun l => mkRow (chunk P ty) ty l ptr0 o k tm d t nx) .fail) .fail
def reps (n : Nat) (z : List V) : List V := Nat.rec (motive := fun _ => List V) [] (fun _ ih => z ++ ih) n
def slEx0 (n : Nat) (b : Nat) : V := .sl b 0 n (.ex n)
def doBuildSlice (ty : TypeId) (n : Nat) (ps : Array (Nat × Operand)) : Do := fun P _ o k tm d t nx =>
  evParts ps.toList tm (fun l => oel (slElem P ty) (fun e => oel (zeroV P e.1) (fun z => oel (cellsOf z) (fun z => bel (Nat.beq z.length e.2) (bel (Nat.ble (Nat.mul n e.2) 16777216)
    (oel (fillL (placeA e.2) l (reps n z)) (fun cs => mkRow e.2 e.1 cs (slEx0 n) o k tm d t nx) .fail) .fail) .fail) .fail) .fail) .fail) .fail
def doMakeMap (_ : TypeId) (r : Option Operand) : Do := fun _ _ o k tm d t nx => oel r (fun _ => .fail) (newK t nx (.map [] 0) fun t nx' => done o (.map nx) k tm d t nx')
def bytesOk (P : Program) (t : TypeId) : Bool := oel (P.info? t) (fun i => Nat.ble i.bytes 65536) false
def rowOk (P : Program) (t : TypeId) (s : Nat) : Bool := bel (Nat.beq s 0) false (bel (bytesOk P t) (oel (zeroV P t) (fun z => oel (cellsOf z) (fun z => Nat.beq z.length s) false) false) false)
def slEx1 (l c : Nat) (b : Nat) : V := .sl b 0 l (.ex c)
def doMakeSlice (ty : TypeId) (l c : Operand) : Do := fun P _ o k tm d t nx =>
  ev l tm (fun l => onNat l (fun l => ev c tm (fun c => onNat c (fun c => oel (slElem P ty) (fun e => oel (zeroV P e.1) (fun z => oel (cellsOf z) (fun z => bel (Nat.beq z.length e.2) (bel (Nat.ble l c) (bel (Nat.ble c 65536) (bel (bytesOk P e.1)
    (mkRow e.2 e.1 (reps c z) (slEx1 l c) o k tm d t nx) .fail) .fail) .fail) .fail) .fail) .fail) .fail) .fail) .fail) .fail) .fail
def strCells (l n : Nat) : List V := Nat.rec (motive := fun _ => Nat → List V) (fun _ => []) (fun _ ih n => .int .u8 (.ofNat (Nat.mod n 256)) :: ih (Nat.div n 256)) l n
def slUp0 (n : Nat) (b : Nat) : V := .sl b 0 n (.up 0)
/-- A string as []byte. -/
def doToBytes (P : Program) (dt : TypeId) (l n : Nat) (o : Oper) (k : K) : K := fun tm d t nx =>
  oel (slElem P dt) (fun e => bel (Nat.beq e.2 1) (mkRow e.2 e.1 (strCells l n) (slUp0 l) o k tm d t nx) .fail) .fail
def doConv (st dt : TypeId) (x : Operand) : Do := fun P _ o k tm d t nx =>
  bel (isBytes P st) (bel (isStr (und P dt)) (oel (rdBytes x tm t) (fun v => done o v k tm d t nx) .fail) .fail)
    (ev x tm (fun v =>
      someD (und P st) .fail (onInt v (fun _ n => oel (intOf? (und P dt)) (fun k' => done o (.int k' (wrapV k' n)) k tm d t nx) .fail)
        (onStr v (fun l n => bel (isStr (und P dt)) (done o (.str l n) k tm d t nx) (bel (isStr (und P st)) (bel (isBytes P dt) (doToBytes P dt l n o k tm d t nx) .fail) .fail)) .fail))) .fail)

/-! ## Operations that change memory -/
def doStore (ty : TypeId) (a x : Operand) : Do := fun P _ o k tm d t nx =>
  ev a tm (fun a => onPtr a (fun b off => ev x tm (fun v => oel (cellsOf v) (fun l => oel (szO P ty) (fun s => bel (Nat.beq l.length s) (storeK t b off l fun t => done o undefV k tm d t nx) .fail) .fail) .fail) .fail) .fail) .fail
def srcCells (t : Hp) (s : Nat) (v : V) (c : List V → Nat → R) : R :=
  onSl v (c [] 0) (fun b off len _ => oel (loadN t b off (Nat.mul len s)) (fun l => c l len) .fail) (onStr v (fun l n => bel (Nat.beq s 1) (c (strCells l n) l) .fail) .fail)
def appEx (e s b off len cap : Nat) (new : List V) (m : Nat) (o : Oper) (k : K) : K := fun tm d t nx =>
  bel (Nat.ble (Nat.add len m) cap) (storeK t b (Nat.add off (Nat.mul len s)) new fun t => done o (.sl b off (Nat.add len m) (.ex cap)) k tm d t nx)
    (bel (Nat.ble (Nat.add len m) 1048576) (oel (loadN t b off (Nat.mul len s)) (fun old => mkRow s e (old ++ new) (slUp0 (Nat.add len m)) o k tm d t nx) .fail) .fail)
def appUp (e s b off len e0 : Nat) (new : List V) (m : Nat) (o : Oper) (k : K) (tm : Env) (d : Dx) (t : Hp) (nx : Nat) (ty ch n fz : Nat) (els : Tr (List V)) : R :=
  bel (Nat.beq ch s) (bel (Nat.beq ty e) (bel (Nat.ble (Nat.add e0 (Nat.add len m)) n) (storeK t b (Nat.add off (Nat.mul len s)) new fun t => done o (.sl b off (Nat.add len m) (.up e0)) k tm d t nx)
    (bel (Nat.beq off 0) (bel (Nat.beq e0 0) (bel (Nat.ble len n) (bel (Nat.ble (Nat.add len m) 1048576) (bel (Nat.ble fz (Nat.mul len s))
      (writeMany ch m els len new fun els => forceN (Nat.add len m) fun n => t.setK b none fun t => newK t nx (.cells e ch n fz els) fun t nx' => done o (.sl nx 0 n (.up 0)) k tm d t nx') .fail) .fail) .fail) .fail) .fail)) .fail) .fail
def appTo (e s : Nat) (x : V) (new : List V) (m : Nat) (o : Oper) (k : K) : K := fun tm d t nx =>
  onSl x (bel (Nat.beq m 0) (done o .nils k tm d t nx) (bel (Nat.ble m 1048576) (mkRow s e new (slUp0 m) o k tm d t nx) .fail))
    (fun b off len cp => onCap cp (fun cap => appEx e s b off len cap new m o k tm d t nx)
      (fun e0 => oel (t.get b) (fun x => x.sel (fun ty ch n fz els => appUp e s b off len e0 new m o k tm d t nx ty ch n fz els) (fun _ _ => .fail) (fun _ => .fail) (fun _ _ _ => .fail)) .fail)) .fail
def doAppend (args : Array Operand) (tys : Array TypeId) : Do := fun P _ o k tm d t nx =>
  onList args.toList .fail fun x r => onList r .fail fun y _ => onList tys.toList .fail fun ty ts => onList ts .fail fun ty2 _ =>
    nointD (und P ty2) .fail (oel (slElem P ty) (fun e => bel (rowOk P e.1 e.2) (ev x tm (fun x => ev y tm (fun y => srcCells t e.2 y fun new m => appTo e.1 e.2 x new m o k tm d t nx) .fail) .fail) .fail) .fail)
def doCopy (args : Array Operand) (tys : Array TypeId) : Do := fun P _ o k tm d t nx =>
  onList args.toList .fail fun x r => onList r .fail fun y _ => onList tys.toList .fail fun ty _ =>
    oel (slElem P ty) (fun e => ev x tm (fun x => ev y tm (fun y => srcCells t e.2 y fun new m =>
      onSl x (done o (.int .i64 (.ofNat 0)) k tm d t nx)
        (fun b off len _ => forceN (min m len) fun m => storeK t b off (new.take (Nat.mul m e.2)) fun t => done o (.int .i64 (.ofNat m)) k tm d t nx) .fail) .fail) .fail) .fail

def putE (P : Program) (t : TypeId) (k v : V) (clock : Nat) : List (V × V × Nat) → Option (List (V × V × Nat) × Nat)
  | [] => some ([(k, v, clock)], Nat.succ clock)
  | e :: r => oel (eqT P t k e.1) (fun b => bel b (bel (sameV k e.1) (bel (bitsV k) (some ((k, v, e.2.2) :: r, clock)) none) none) (oel (putE P t k v clock r) (fun x => some (e :: x.1, x.2)) none)) none
def delE (P : Program) (t : TypeId) (k : V) : List (V × V × Nat) → Option (List (V × V × Nat))
  | [] => some []
  | e :: r => oel (eqT P t k e.1) (fun b => bel b (some r) (oel (delE P t k r) (fun x => some (e :: x)) none)) none
def forceEs (es : List (V × V × Nat)) (c : List (V × V × Nat) → R) : R :=
  List.rec (motive := fun _ => (List (V × V × Nat) → R) → R) (fun c => c []) (fun e _ ih c => forceW e.1 fun a => forceW e.2.1 fun b => forceN e.2.2 fun n => ih fun r => c ((a, b, n) :: r)) es c
def setMap (t : Hp) (b : Nat) (es : List (V × V × Nat)) (cl : Nat) (c : Hp → R) : R := forceEs es fun es => forceN cl fun cl => t.setK b (some (.map es cl)) c
def doMapPut (ty : TypeId) (m x v : Operand) : Do := fun P _ o k tm d t nx =>
  oel (mapOf (und P ty)) (fun ke => bel (plainKey P ke.1) (ev m tm (fun m => onMap m (fun b => ev x tm (fun x => ev v tm (fun v => bel (selfOk P ke.1 x) (oel (mapAt t b) (fun es => oel (putE P ke.1 x v es.2 es.1)
    (fun r => setMap t b r.1 r.2 fun t => done o undefV k tm d t nx) .fail) .fail) .fail) .fail) .fail) .fail) .fail) .fail) .fail
def doDelete (args : Array Operand) (tys : Array TypeId) : Do := fun P _ o k tm d t nx =>
  onList args.toList .fail fun x r => onList r .fail fun y _ => onList tys.toList .fail fun ty _ =>
    oel (mapOf (und P ty)) (fun ke => bel (plainKey P ke.1) (ev x tm (fun m => onMap m (fun b => ev y tm (fun y => bel (selfOk P ke.1 y) (oel (mapAt t b) (fun es => oel (delE P ke.1 y es.1)
      (fun r => setMap t b r es.2 fun t => done o (.tup []) k tm d t nx) .fail) .fail) .fail) .fail) .fail) .fail) .fail) .fail
/-! ## Ranging over a map of no more than one entry -/
def doRange (ty : TypeId) (x : Operand) : Do := fun P _ o k tm d t nx =>
  bel (isMap (und P ty)) (ev x tm (fun v => match v with
    | .nilm => newK t nx (.miter none 0 []) fun t nx' => done o (.ptr nx 0) k tm d t nx'
    | .map m => oel (mapAt t m) (fun es => newK t nx (.miter (some m) es.2 []) fun t nx' => done o (.ptr nx 0) k tm d t nx') .fail
    | _ => .fail) .fail) .fail
def nextIn (b m since cl : Nat) (seen : List Nat) (es : List (V × V × Nat)) (o : Oper) (k : K) : K := fun tm d t nx =>
  match es, seen with
  | [], [] => done o (.tup [.bool false]) k tm d t nx
  | [], [_] => done o (.tup [.bool false]) k tm d t nx
  | [e], [] => bel (Nat.ble (Nat.succ e.2.2) since) (bel (Nat.ble (Nat.succ e.2.2) cl) (t.setK b (some (.miter (some m) since [e.2.2])) fun t => done o (.tup [.bool true, e.1, e.2.1]) k tm d t nx) .fail) .fail
  | [e], [s] => bel (Nat.beq e.2.2 s) (done o (.tup [.bool false]) k tm d t nx) .fail
  | _, _ => .fail
def nextAt (b : Nat) (o : Oper) (k : K) (tm : Env) (d : Dx) (t : Hp) (nx : Nat) (m : Option Nat) (since : Nat) (seen : List Nat) : R :=
  oel m (fun m => oel (mapAt t m) (fun es => nextIn b m since es.2 seen es.1 o k tm d t nx) .fail) (done o (.tup [.bool false]) k tm d t nx)
def doNext (i : Operand) (str : Bool) : Do := fun _ _ o k tm d t nx =>
  bel str .fail (ev i tm (fun v => onPtr v (fun b off => bel (Nat.beq off 0) (oel (t.get b) (fun x => x.sel (fun _ _ _ _ _ => .fail) (fun _ _ => .fail) (fun _ => .fail) (fun m since seen => nextAt b o k tm d t nx m since seen)) .fail) .fail) .fail) .fail)
end
end Go.X
end

section
/- A reckoner for Go code over named memory: code and calls. -/
namespace Go.X
noncomputable section
variable {α β : Type}

/-! ## Calls and panics -/
def onIf (v : V) (r : R) : R := match v with | .iface _ _ => r | _ => .fail
def doPanic (x : Operand) : Do := fun _ _ _ _ tm d t nx => ev x tm (fun v => onIf v (.go (.panic v) tm d t nx)) .fail
def CR.on (r : CR) (ret : V → Hp → Nat → Option V → β) (pan : V → Hp → Nat → β) (f : β) : β := CR.rec (motive := fun _ => β) f ret pan r
/-- A call, and what follows where it panics. -/
def callWith (x : Operand) (args : Array Operand) (self : CallT) (o : Oper) (kp : V → Hp → Nat → R) (k : K) : K := fun tm d t nx =>
  ev x tm (fun f => onFn f (fun g a c => evs args.toList tm (fun l => forceUL (a ++ (l ++ c)) fun l => (self g l none t nx).on (fun v t nx _ => done o v k tm d t nx) kp .fail) .fail) .fail) .fail
def doCall (x : Operand) (args : Array Operand) : Do := fun _ self o k tm d t nx => callWith x args self o (fun v t nx => .go (.panic v) tm d t nx) k tm d t nx
def doBuiltin (b : Builtin) (args : Array Operand) (tys : Array TypeId) : Do :=
  match b with
  | .len => fun P _ o k tm d t nx => oel (rdLen P args tys tm t) (fun v => done o v k tm d t nx) .fail
  | .append => doAppend args tys
  | .copy => doCopy args tys
  | .delete => doDelete args tys
  | .max => fun _ _ o k tm d t nx => evs args.toList tm (fun l => match l with
      | [.int j a, .int i b] => bel (sameKind j i) (done o (.int j (bel (leI b a) a b)) k tm d t nx) .fail
      | _ => .fail) .fail
  | .min => fun _ _ o k tm d t nx => evs args.toList tm (fun l => match l with
      | [.int j a, .int i b] => bel (sameKind j i) (done o (.int j (bel (leI a b) a b)) k tm d t nx) .fail
      | _ => .fail) .fail
  | _ => doFail
def doCallee (c : Callee) : Array Operand → Array TypeId → Do :=
  Callee.rec (motive := fun _ => Array Operand → Array TypeId → Do) (fun x args _ => doCall x args) (fun _ _ _ _ => doFail) doBuiltin c
def doCallOp (c : Call) : Do := doCallee c.callee c.args c.argTypes
def doDefer (c : Call) : Do := fun _ _ o k tm d t nx =>
  match c.callee with
  | .value x => ev x tm (fun f => onFn f (fun g a cp => evs c.args.toList tm (fun l => done o undefV (fun tm d t nx => k tm ⟨(g, a ++ (l ++ cp)) :: d.df, d.pan⟩ t nx) tm d t nx) .fail) .fail) .fail
  | _ => .fail

def disp (op : Op) : Do :=
  Op.rec (motive := fun _ => Do)
    doMove doMove doPick doAlloc doBox doBuild doBuildSlice
    (fun t m k v => doMapPut t m k v)                                  -- insert
    doLoad doStore (fun _ => doFail) (fun _ => doFail) doNil doBin doUn doConv (fun _ _ => doFail)
    doIface doFunc doMakeMap (fun _ _ => doFail) doMakeSlice doSlice doFieldAddr doField doIndexAddr doIndex doLookup
    (fun t m k v => doMapPut t m k v)                                  -- mapUpdate
    (fun _ _ _ => doFail) (fun _ _ _ _ => doFail) doRange doNext (fun _ => doFail) doAssert doExtract doCallOp
    (fun _ => doFail) doDefer doPanic (fun _ _ => doFail) (fun _ _ _ => doFail) (fun _ _ => doFail) op

/-! ## Guards -/
def wantIs (b w : Bool) (y n : β) : β := bel (boolEq b w) y n
/-- Is an operation to be done? -/
def guardX (ops : List Oper) (g : Option (Nat × Bool)) (tm : Env) (y n : R) : R :=
  oel g (fun jw => oel (nth ops jw.1) (fun go => oel go.dst (fun d => oel (tm.get d) (fun v => onBool v (wantIs true jw.2 y n) (wantIs false jw.2 y n) n) .fail) n) n) y
def stepX (P : Program) (self : CallT) (all : List Oper) (o : Oper) (k : K) : K := fun tm d t nx =>
  guardX all o.guard tm (disp o.op P self o k tm d t nx) (done o undefV k tm d t nx)
/-- Operations, one behind the other. -/
def seqX (P : Program) (self : CallT) (all ops : List Oper) : K → K :=
  List.rec (motive := fun _ => K → K) (fun k => k) (fun o _ ih k => stepX P self all o (ih k)) ops

/-! ## Operations whose order is drawn -/
inductive Cl where | p | r | a | e
def clOf (P : Program) (op : Op) : Cl :=
  match op with
  | .load .. => .r
  | .lookup .. => .r
  | .alloc _ => .a
  | .box .. => .a
  | .buildSlice .. => .a
  | .makeMap .. => .a
  | .makeSlice .. => .a
  | .convert s d _ => bel (andB (isBytes P s) (isStr (und P d))) .r (bel (andB (isStr (und P s)) (isBytes P d)) .a .p)
  | .call ⟨.builtin .len, _, _⟩ => .r
  | .call ⟨.builtin .max, _, _⟩ => .p
  | .call ⟨.builtin .min, _, _⟩ => .p
  | .move _ => .p
  | .assign _ => .p
  | .pick .. => .p
  | .build .. => .p
  | .nilCheck _ => .p
  | .binOp .. => .p
  | .unOp .. => .p
  | .makeInterface .. => .p
  | .makeFunc .. => .p
  | .extract .. => .p
  | .fieldAddr .. => .p
  | .field .. => .p
  | .indexAddr .. => .p
  | .index .. => .p
  | .slice .. => .p
  | .typeAssert .. => .p
  | _ => .e
def hasBit (s i : Nat) : Bool := Nat.beq (Nat.mod (Nat.shiftRight s i) 2) 1
def edgeB (e : Edge) : Bool := Region.binds .any e
def befOf (acc : List Nat) (es : List Edge) : Nat :=
  List.rec (motive := fun _ => Nat) 0 (fun e _ ih => bel (edgeB e) (Nat.lor (Nat.lor (Nat.shiftLeft 1 e.on) (oel (nth acc e.on) (fun s => s) 0)) ih) ih) es
/-- What must come ahead of each operation: a number whose bits are their numbers. -/
def befs (ops : List Oper) : List Nat → List Nat :=
  List.rec (motive := fun _ => List Nat → List Nat) (fun acc => acc) (fun o _ ih acc => ih (acc ++ [befOf acc o.after.toList])) ops

structure Item where
  i : Nat
  o : Oper
  bef : Nat
  cl : Cl
def items (P : Program) (bs : List Nat) (ops : List Oper) (i : Nat) : List Item :=
  match ops, bs with
  | o :: r, b :: bs => ⟨i, o, b, clOf P o.op⟩ :: items P bs r (Nat.succ i)
  | _, _ => []
def Item.isE (x : Item) : Bool := match x.cl with | .e => true | _ => false
def Item.isA (x : Item) : Bool := match x.cl with | .a => true | _ => false
def Item.isR (x : Item) : Bool := match x.cl with | .r => true | _ => false
def Item.isStore (x : Item) : Bool := match x.o.op with | .store .. => true | _ => false
def chainOk : List Item → Bool
  | [] => true
  | x :: r => andB (r.all fun y => hasBit y.bef x.i) (chainOk r)
/-- Stores that come behind everything else, in whatever order: but for what only reckons and isn't asked for by any of them. -/
def inAll (ts : List Item) (x : Item) : Bool := ts.all fun t => hasBit t.bef x.i
def Item.isP (x : Item) : Bool := match x.cl with | .p => true | _ => false
def tailOk (rest es ts : List Item) : Bool :=
  andB (ts.all fun t => andB t.isStore (andB (notB (match t.o.guard with | some _ => true | none => false)) (es.all fun e => hasBit t.bef e.i)))
    (rest.all fun x => andB (bel (inAll ts x) true x.isP) (ts.all fun t => notB (hasBit x.bef t.i)))
def splitTail (rest es : List Item) : Option (List Item × List Item) :=
  bel (chainOk es) (some (es, []))
    (bel (andB (chainOk (es.take (es.length - 2))) (tailOk rest (es.take (es.length - 2)) (es.drop (es.length - 2)))) (some (es.take (es.length - 2), es.drop (es.length - 2)))
      (bel (andB (chainOk (es.take (es.length - 3))) (tailOk rest (es.take (es.length - 3)) (es.drop (es.length - 3)))) (some (es.take (es.length - 3), es.drop (es.length - 3))) none))
/-- Temporaries that two name, where one of them sets it: they have an order. -/
def Oper.names (ops : List Oper) (o : Oper) : List Nat :=
  (o.op.operands.toList.filterMap fun x => match x with | .tmp t => some t | _ => none) ++
    (match o.guard with | some (j, _) => (match nth ops j with | some g => g.dst.toList | none => []) | none => [])
def clash (ops : List Oper) (x y : Item) : Bool :=
  match x.o.dst with
  | some d => bel ((Oper.names ops y.o).any fun t => Nat.beq t d) true (match y.o.dst with | some e => bel (Nat.beq d e) true ((Oper.names ops x.o).any fun t => Nat.beq t e) | none => false)
  | none => match y.o.dst with | some e => (Oper.names ops x.o).any fun t => Nat.beq t e | none => false
def tempsOk (ops : List Oper) : List Item → Bool
  | [] => true
  | x :: r => andB (r.all fun y => bel (clash ops x y) (hasBit y.bef x.i) true) (tempsOk ops r)

/-- What must come ahead has a lower number. -/
def befsOk (its : List Item) : Bool := its.all fun x => Nat.ble (Nat.succ x.bef) (Nat.pow 2 x.i)
/-- No two set the same temporary. -/
def dstsOk : List Item → Bool
  | [] => true
  | x :: r => andB (match x.o.dst with | some d => r.all (fun y => (match y.o.dst with | some e => notB (Nat.beq d e) | none => true)) | none => true) (dstsOk r)
/-- One that is no effect: 'back': so many elder stages it might be done in. -/
structure Act1 where
  x : Item
  back : Nat
structure Stage where
  pre : List Act1
  eff : Item
  dry : List Act1
def loOf (es : List Item) (x : Item) : Nat := (es.filter fun e => hasBit x.bef e.i).length
def mkActs (es : List Item) (g : Nat) (l : List Item) : List Act1 := l.map fun x => ⟨x, Nat.sub g (loOf es x)⟩
def mkStages (all : List Item) : Nat → List Item → List Item → List Stage
  | _, _, [] => []
  | g, rest, e :: r =>
    ⟨mkActs all g (rest.filter fun x => hasBit e.bef x.i), e, mkActs all g (rest.filter fun x => bel (hasBit e.bef x.i) false (notB (hasBit x.bef e.i)))⟩
      :: mkStages all (Nat.succ g) (rest.filter fun x => notB (hasBit e.bef x.i)) r
def lastRest : List Item → List Item → List Item
  | rest, [] => rest
  | rest, e :: r => lastRest (rest.filter fun x => notB (hasBit e.bef x.i)) r
/-- Does it come behind everything else? -/
def lastOne (its : List Item) (z : Item) : Bool := its.all fun y => bel (Nat.beq y.i z.i) true (hasBit z.bef y.i)
structure Plan where
  uns : List Item
  stages : List Stage
  last : List Act1
  tail : List Item
  late : List Act1
def planOf (P : Program) (ops : List Oper) : Option Plan :=
  let its := items P (befs ops []) ops 0
  let es := its.filter Item.isE
  let rest := its.filter fun x => notB x.isE
  bel (andB (befsOk its) (andB (tempsOk ops its) (dstsOk its))) (oel (splitTail rest es) (fun et =>
    some ⟨its.filter fun z => notB (lastOne its z), mkStages et.1 0 rest et.1, mkActs et.1 et.1.length ((lastRest rest et.1).filter fun x => inAll et.2 x), et.2, mkActs et.1 et.1.length ((lastRest rest et.1).filter fun x => notB (inAll et.2 x))⟩) none) none

def stable (P : Program) (op : Op) (tm : Env) (v : V) : Nat → List Hp → Bool
  | 0, _ => true
  | n + 1, t :: r => oel (opR P op tm t) (fun w => andB (sameV v w) (stable P op tm v n r)) false
  | _ + 1, [] => false
/-- A read in stage 'hist' (its own heap first, elder ones behind). -/
def doRead (P : Program) (a : Act1) (hist : List Hp) (k : K) : K := fun tm d t nx =>
  onList hist .fail fun h0 old => oel (opR P a.x.o.op tm h0) (fun v => bel (stable P a.x.o.op tm v a.back old) (done a.x.o v k tm d t nx) .fail) .fail
def act1X (P : Program) (self : CallT) (ops : List Oper) (hist : List Hp) (a : Act1) (k : K) : K := fun tm d t nx =>
  guardX ops a.x.o.guard tm (match a.x.cl with
    | .r => doRead P a hist k tm d t nx
    | _ => disp a.x.o.op P self a.x.o k tm d t nx) (done a.x.o undefV k tm d t nx)
def actsX (P : Program) (self : CallT) (ops : List Oper) (hist : List Hp) (l : List Act1) : K → K :=
  List.rec (motive := fun _ => K → K) (fun k => k) (fun a _ ih k => act1X P self ops hist a (ih k)) l
/-- A panic in the midst: what might have been done ahead of it must go well; what it set is forgotten. -/
def panicX (P : Program) (self : CallT) (ops : List Oper) (hist : List Hp) (dry : List Act1) (tm0 : Env) (d0 : Dx) (t0 : Hp) (nx0 : Nat) (v : V) (t : Hp) (nx : Nat) : R :=
  actsX P self ops hist dry (fun _ _ _ _ => .go (.panic v) (ops.foldl (fun e o => oel o.dst (fun x => e.set x none) e) tm0) d0 t nx) tm0 d0 t0 nx0
def effX (P : Program) (self : CallT) (ops : List Oper) (hist : List Hp) (s : Stage) (k : K) : K := fun tm d t nx =>
  match s.eff.o.op with
  | .call ⟨.value x, args, _⟩ => callWith x args self s.eff.o (panicX P self ops hist s.dry tm d t nx) k tm d t nx
  | .panic x => ev x tm (fun v => onIf v (panicX P self ops hist s.dry tm d t nx v t nx)) .fail
  | .defer _ => .fail
  | op => disp op P self s.eff.o k tm d t nx
/-- What follows an effect; it took no name away. -/
def effK (k : List Hp → K) (hist : List Hp) (nx0 : Nat) : K := fun tm d t nx => bel (Nat.ble nx0 nx) (k (t :: hist) tm d t nx) .fail
def stageX (P : Program) (self : CallT) (ops : List Oper) (s : Stage) (k : List Hp → K) (hist : List Hp) : K :=
  actsX P self ops hist s.pre fun tm d t nx =>
    guardX ops s.eff.o.guard tm (effX P self ops hist s (effK k hist nx) tm d t nx) (done s.eff.o undefV (effK k hist nx) tm d t nx)
def tailX (P : Program) (self : CallT) (l : List Item) : List Nat → K → K :=
  List.rec (motive := fun _ => List Nat → K → K) (fun _ k => k) (fun x _ ih seen k tm d t nx =>
    match x.o.op with
    | .store _ a _ => oel x.o.dst (fun _ => .fail) (ev a tm (fun a => onPtr a (fun b _ => bel (seen.any fun c => Nat.beq b c) .fail (disp x.o.op P self x.o (ih (b :: seen) k) tm d t nx)) .fail) .fail)
    | _ => .fail) l
/-- What the region sets is forgotten at its start. -/
def unsetK (l : List Item) : Env → (Env → R) → R :=
  List.rec (motive := fun _ => Env → (Env → R) → R) (fun tm c => c tm) (fun z _ ih tm c => oel z.o.dst (fun d => tm.setK d none fun tm => ih tm c) (ih tm c)) l
def planX (P : Program) (self : CallT) (ops : List Oper) (p : Plan) (k : K) : K := fun tm d t nx =>
  unsetK p.uns tm fun tm => List.rec (motive := fun _ => List Hp → K) (fun hist => actsX P self ops hist p.last (actsX P self ops hist p.late (tailX P self p.tail [] k))) (fun s _ ih hist => stageX P self ops s ih hist) p.stages [t] tm d t nx
def drawX (P : Program) (self : CallT) (ops : List Oper) (k : K) : K := fun tm d t nx => oel (planOf P ops) (fun p => planX P self ops p k tm d t nx) .fail

/-! ## Code -/
def Out.sel (o : Out) (n : β) (e : Nat → β) (r : β) (p : V → β) : β := Out.rec (motive := fun _ => β) n e r p o
def R.onGo (r : R) (c : Out → Env → Dx → Hp → Nat → R) : R := R.rec (motive := fun _ => R) .fail c r
def goR (r : R) (k : K) : R := r.onGo fun o tm d t nx => o.sel (k tm d t nx) (fun i => .go (.exit i) tm d t nx) (.go .ret tm d t nx) (fun v => .go (.panic v) tm d t nx)
def condK (c : Operand) (a b : K) : K := fun tm d t nx => ev c tm (fun v => onBool v (a tm d t nx) (b tm d t nx) .fail) .fail
def blockR (id : Nat) (r : R) : R := r.onGo fun o tm d t nx => o.sel (.go .normal tm d t nx) (fun i => bel (Nat.beq i id) (.go .normal tm d t nx) (.go (.exit i) tm d t nx)) (.go .ret tm d t nx) (fun v => .go (.panic v) tm d t nx)
def loopR (body : K) (k : Nat) : K := Nat.rec (motive := fun _ => K) (fun _ _ _ _ => .fail) (fun _ ih tm d t nx => goR (body tm d t nx) ih) k
def kEnd : K := fun tm d t nx => .go .normal tm d t nx
def regionX (P : Program) (self : CallT) (ops : Array Oper) (draw : Bool) : K := bel draw (drawX P self ops.toList kEnd) (seqX P self ops.toList ops.toList kEnd)
def kFail : K := fun _ _ _ _ => .fail
def codeX (P : Program) (self : CallT) (c : Code) : K :=
  Code.rec (motive := fun _ => K)
    kEnd
    (fun _ ops draw => regionX P self ops draw)
    (fun _ _ a b tm d t nx => goR (a tm d t nx) b)
    (fun c _ _ a b => condK c a b)
    (fun id _ b tm d t nx => blockR id (b tm d t nx))
    (fun _ b => loopR b 100000)
    (fun _ _ _ _ _ _ => kFail)
    (fun id tm d t nx => .go (.exit id) tm d t nx)
    (fun _ b => b)
    (fun _ => kEnd)
    (fun _ => kFail)
    (fun tm d t nx => .go .ret tm d t nx)
    (fun _ => kFail)
    c

/-- The same in a deferred call: 'recover'. -/
def isRecover (op : Op) : Bool := match op with | .call ⟨.builtin .recover, _, _⟩ => true | _ => false
def doRecover (o : Oper) (k : K) : K := fun tm d t nx => oel d.pan (fun v => done o v (fun tm d t nx => k tm ⟨d.df, none⟩ t nx) tm d t nx) (done o .nili k tm d t nx)
def stepD (P : Program) (self : CallT) (all : List Oper) (o : Oper) (k : K) : K :=
  bel (isRecover o.op) (oel o.guard (fun _ => kFail) (doRecover o k)) (stepX P self all o k)
def seqD (P : Program) (self : CallT) (all ops : List Oper) : K → K :=
  List.rec (motive := fun _ => K → K) (fun k => k) (fun o _ ih k => stepD P self all o (ih k)) ops
def codeD (P : Program) (self : CallT) : Code → K
  | .seq a b => fun tm d t nx => goR (codeD P self a tm d t nx) (codeD P self b)
  | .region id ops false => bel (ops.toList.any fun o => isRecover o.op) (seqD P self ops.toList ops.toList kEnd) (codeX P self (.region id ops false))
  | c => codeX P self c

/-! ## Functions -/
def resX (P : Program) (tm : Env) (t : Hp) (l : List ResultVar) (c : List V → CR) : CR :=
  List.rec (motive := fun _ => (List V → CR) → CR) (fun c => c []) (fun x _ ih c => match x with
    | .tmp i => oel (tm.get i) (fun v => ih fun l => c (v :: l)) .fail
    | .cell a ty => oel (rdLoad P ty (.tmp a) tm t) (fun v => ih fun l => c (v :: l)) .fail) l c
def retX (P : Program) (fn : Func) (tm : Env) (t : Hp) (nx : Nat) (pan : Option V) : CR :=
  resX P tm t fn.results.toList fun l => onList l (.ret (.tup []) t nx pan) fun v r => onList r (.ret v t nx pan) fun _ _ => .ret (.tup l) t nx pan
/-- What was deferred, done. v: the panic that is under way. -/
def deferX (P : Program) (self : CallT) (fn : Func) (df : List (FuncId × List V)) : Env → Option V → Option V → Hp → Nat → CR :=
  List.rec (motive := fun _ => Env → Option V → Option V → Hp → Nat → CR)
    (fun tm pan v t nx => oel v (fun v => .panic v t nx) (retX P fn tm t nx pan))
    (fun d _ ih tm pan v t nx => (self d.1 d.2 (some v) t nx).on (fun _ t nx left => ih tm pan left t nx) (fun _ _ _ => .fail) .fail) df
def endX (P : Program) (self : CallT) (fn : Func) (r : R) : CR :=
  R.rec (motive := fun _ => CR) .fail (fun o tm d t nx => o.sel (deferX P self fn d.df tm d.pan none t nx) (fun _ => .fail) (deferX P self fn d.df tm d.pan none t nx) (fun v => deferX P self fn d.df tm d.pan (some v) t nx)) r
/-- A deferred call's end: nothing of its own is deferred, it doesn't panic. -/
def endD (P : Program) (fn : Func) (r : R) : CR :=
  R.rec (motive := fun _ => CR) .fail (fun o tm d t nx => o.sel (onList d.df (retX P fn tm t nx d.pan) fun _ _ => .fail) (fun _ => .fail) (onList d.df (retX P fn tm t nx d.pan) fun _ _ => .fail) (fun _ => .fail)) r
def argsK (args : List V) : Nat → Env → (Env → CR) → CR :=
  List.rec (motive := fun _ => Nat → Env → (Env → CR) → CR) (fun _ e c => c e) (fun v _ ih i e c => e.setK i (some v) fun e => ih (Nat.succ i) e c) args
def bodyX (P : Program) (self : CallT) (fn : Func) (body : Code) (args : List V) (m : Option (Option V)) (t : Hp) (nx : Nat) : CR :=
  argsK args 0 .nil fun e => oel m (fun pan => endD P fn (codeD P self body e ⟨[], pan⟩ t nx)) (endX P self fn (codeX P self body e ⟨[], none⟩ t nx))

/-- Every temporary that is set is one of the frame's. -/
def okOps (n : Nat) (l : List Oper) : Bool := List.rec (motive := fun _ => Bool) true (fun o _ ih => oel o.dst (fun d => bel (Nat.ble (Nat.succ d) n) ih false) ih) l
def okCode (n : Nat) (c : Code) : Bool :=
  Code.rec (motive := fun _ => Bool) true (fun _ ops _ => okOps n ops.toList) (fun _ _ a b => bel a b false) (fun _ _ _ a b => bel a b false) (fun _ _ b => b) (fun _ b => b)
    (fun _ _ _ _ _ _ => true) (fun _ => true) (fun _ b => b) (fun _ => true) (fun _ => true) true (fun _ => true) c

/-- Calls that are answered by themselves: contracts. -/
abbrev Ext := FuncId → Option (List V → Hp → Nat → CR)
def funX (P : Program) (f : FuncId) : Option Func := nth P.funcs.toList f
def fnOk (fn : Func) : Bool := oel fn.body (okCode fn.ntmps) false
def callStep (P : Program) (ext : Ext) (self : CallT) : CallT := fun f args m t nx =>
  oel (ext f) (fun g => oel m (fun _ => .fail) (g args t nx))
    (oel (funX P f) (fun fn => bel (fnOk fn) (oel fn.body (fun body => bodyX P self fn body args m t nx) .fail) .fail) .fail)
def callX (P : Program) (ext : Ext) (n : Nat) : CallT := Nat.rec (motive := fun _ => CallT) (fun _ _ _ _ _ => .fail) (fun _ ih => callStep P ext ih) n
end
end Go.X
end

section
/- The reckoner: what its words come to. -/
namespace Go.X
noncomputable section
variable {α β : Type}

@[simp] theorem bel_true (t f : β) : bel true t f = t := rfl
@[simp] theorem bel_false (t f : β) : bel false t f = f := rfl
@[simp] theorem oel_some (a : α) (s : α → β) (n : β) : oel (some a) s n = s a := rfl
@[simp] theorem oel_none (s : α → β) (n : β) : oel none s n = n := rfl
@[simp] theorem nel_zero (z : β) (s : Nat → β) : nel 0 z s = z := rfl
@[simp] theorem nel_succ (k : Nat) (z : β) (s : Nat → β) : nel (k + 1) z s = s k := rfl
theorem even_true {k : Nat} (h : k % 2 = 0) (e o : β) : even k e o = e := by
  have : Nat.beq (Nat.mod k 2) 0 = true := by show Nat.beq (k % 2) 0 = true; rw [h]; rfl
  unfold even; rw [this]; rfl
theorem even_false {k : Nat} (h : ¬ k % 2 = 0) (e o : β) : even k e o = o := by
  have : Nat.beq (Nat.mod k 2) 0 = false := by
    cases hb : Nat.beq (Nat.mod k 2) 0 with
    | false => rfl
    | true => exact absurd (Nat.eq_of_beq_eq_true hb) h
  unfold even; rw [this]; rfl

/-! ### The trie -/
@[simp] theorem Tr.get_nil (k : Nat) : (Tr.nil : Tr α).get k = none := rfl
@[simp] theorem Tr.get_node_zero (l : Tr α) (x : Option α) (r : Tr α) : (Tr.node l x r).get 0 = x := rfl
theorem Tr.get_node_succ (l : Tr α) (x : Option α) (r : Tr α) (k : Nat) : (Tr.node l x r).get (k + 1) = if k % 2 = 0 then l.get (k / 2) else r.get (k / 2) := by
  show even k (l.get (Nat.div k 2)) (r.get (Nat.div k 2)) = _
  by_cases h : k % 2 = 0
  · rw [even_true h, if_pos h]; rfl
  · rw [even_false h, if_neg h]; rfl

theorem Tr.setF_succ_nil (f : Nat) (k : Nat) (v : Option α) (c : Tr α → β) :
    Tr.setF (f + 1) .nil k v c = Tr.setNil (fun t k c => Tr.setF f t k v c) v k c := rfl
theorem Tr.setF_succ_node (f : Nat) (l : Tr α) (x : Option α) (r : Tr α) (k : Nat) (v : Option α) (c : Tr α → β) :
    Tr.setF (f + 1) (.node l x r) k v c = Tr.setNode (fun t k c => Tr.setF f t k v c) v k c l x r := rfl

/-- The trie with v at k: as a function. -/
def Tr.put (f : Nat) (t : Tr α) (k : Nat) (v : Option α) : Tr α := Tr.setF f t k v fun t => t

theorem Tr.setF_eq (v : Option α) : ∀ (f : Nat) (t : Tr α) (k : Nat) {β : Type} (c : Tr α → β), Tr.setF f t k v c = c (Tr.put f t k v)
  | 0, _, _, _, _ => rfl
  | f + 1, .nil, k, _, c => by
    unfold Tr.put
    rw [Tr.setF_succ_nil, Tr.setF_succ_nil]
    unfold Tr.setNil
    cases k with
    | zero => rfl
    | succ k =>
      simp only [nel_succ]
      by_cases h : k % 2 = 0
      · rw [even_true h, even_true h, Tr.setF_eq v f, Tr.setF_eq v f]
      · rw [even_false h, even_false h, Tr.setF_eq v f, Tr.setF_eq v f]
  | f + 1, .node l x r, k, _, c => by
    unfold Tr.put
    rw [Tr.setF_succ_node, Tr.setF_succ_node]
    unfold Tr.setNode
    cases k with
    | zero => rfl
    | succ k =>
      simp only [nel_succ]
      by_cases h : k % 2 = 0
      · rw [even_true h, even_true h, Tr.setF_eq v f, Tr.setF_eq v f]
      · rw [even_false h, even_false h, Tr.setF_eq v f, Tr.setF_eq v f]

theorem Tr.put_nil (f k : Nat) (v : Option α) : Tr.put (f + 1) (.nil : Tr α) k v =
    match k with
    | 0 => .node .nil v .nil
    | k + 1 => if k % 2 = 0 then .node (Tr.put f .nil (k / 2) v) none .nil else .node .nil none (Tr.put f .nil (k / 2) v) := by
  conv => lhs; unfold Tr.put
  rw [Tr.setF_succ_nil]
  unfold Tr.setNil
  cases k with
  | zero => rfl
  | succ k =>
    simp only [nel_succ]
    by_cases h : k % 2 = 0
    · rw [even_true h, if_pos h, Tr.setF_eq v f]; rfl
    · rw [even_false h, if_neg h, Tr.setF_eq v f]; rfl
theorem Tr.put_node (f k : Nat) (l : Tr α) (x : Option α) (r : Tr α) (v : Option α) : Tr.put (f + 1) (.node l x r) k v =
    match k with
    | 0 => .node l v r
    | k + 1 => if k % 2 = 0 then .node (Tr.put f l (k / 2) v) x r else .node l x (Tr.put f r (k / 2) v) := by
  conv => lhs; unfold Tr.put
  rw [Tr.setF_succ_node]
  unfold Tr.setNode
  cases k with
  | zero => rfl
  | succ k =>
    simp only [nel_succ]
    by_cases h : k % 2 = 0
    · rw [even_true h, if_pos h, Tr.setF_eq v f]; rfl
    · rw [even_false h, if_neg h, Tr.setF_eq v f]; rfl

theorem Tr.get_put (v : Option α) : ∀ (f : Nat) (t : Tr α) (k j : Nat), k < f → (Tr.put f t k v).get j = if j = k then v else t.get j
  | 0, _, _, _, h => absurd h (Nat.not_lt_zero _)
  | f + 1, .nil, 0, j, _ => by
    rw [Tr.put_nil]
    cases j with
    | zero => simp
    | succ j => simp only [Tr.get_node_succ]; simp
  | f + 1, .nil, k + 1, j, h => by
    have hk : k / 2 < f := by omega
    rw [Tr.put_nil]
    simp only []
    by_cases hp : k % 2 = 0
    · rw [if_pos hp]
      cases j with
      | zero => simp
      | succ j =>
        rw [Tr.get_node_succ]
        by_cases hq : j % 2 = 0
        · rw [if_pos hq, Tr.get_put v f _ _ _ hk]
          by_cases e : j = k
          · subst e; simp
          · rw [if_neg (by omega), if_neg (by omega)]; rfl
        · rw [if_neg hq, if_neg (by omega)]; rfl
    · rw [if_neg hp]
      cases j with
      | zero => simp
      | succ j =>
        rw [Tr.get_node_succ]
        by_cases hq : j % 2 = 0
        · rw [if_pos hq, if_neg (by omega)]; rfl
        · rw [if_neg hq, Tr.get_put v f _ _ _ hk]
          by_cases e : j = k
          · subst e; simp
          · rw [if_neg (by omega), if_neg (by omega)]; rfl
  | f + 1, .node l x r, 0, j, _ => by
    rw [Tr.put_node]
    cases j with
    | zero => simp
    | succ j => simp only [Tr.get_node_succ]; simp
  | f + 1, .node l x r, k + 1, j, h => by
    have hk : k / 2 < f := by omega
    rw [Tr.put_node]
    simp only []
    by_cases hp : k % 2 = 0
    · rw [if_pos hp]
      cases j with
      | zero => simp
      | succ j =>
        rw [Tr.get_node_succ, Tr.get_node_succ]
        by_cases hq : j % 2 = 0
        · rw [if_pos hq, if_pos hq, Tr.get_put v f _ _ _ hk]
          by_cases e : j = k
          · subst e; simp
          · rw [if_neg (by omega), if_neg (by omega)]
        · rw [if_neg hq, if_neg hq, if_neg (by omega)]
    · rw [if_neg hp]
      cases j with
      | zero => simp
      | succ j =>
        rw [Tr.get_node_succ, Tr.get_node_succ]
        by_cases hq : j % 2 = 0
        · rw [if_pos hq, if_pos hq, if_neg (by omega)]
        · rw [if_neg hq, if_neg hq, Tr.get_put v f _ _ _ hk]
          by_cases e : j = k
          · subst e; simp
          · rw [if_neg (by omega), if_neg (by omega)]

theorem Tr.setK_eq (t : Tr α) (k : Nat) (v : Option α) (c : Tr α → β) : Tr.setK t k v c = c (t.set k v) := by
  unfold Tr.setK Tr.set Tr.setK
  rw [Tr.setF_eq, Tr.setF_eq]
theorem Tr.get_set (t : Tr α) (k j : Nat) (v : Option α) : (t.set k v).get j = if j = k then v else t.get j := by
  unfold Tr.set Tr.setK
  exact Tr.get_put v (k + 1) t k j (Nat.lt_succ_self k)
@[simp] theorem Tr.get_set_self (t : Tr α) (k : Nat) (v : Option α) : (t.set k v).get k = v := by rw [Tr.get_set, if_pos rfl]
theorem Tr.get_set_other (t : Tr α) {k j : Nat} (v : Option α) (h : j ≠ k) : (t.set k v).get j = t.get j := by rw [Tr.get_set, if_neg h]

theorem nth_eq : ∀ (l : List α) (n : Nat), nth l n = l[n]?
  | [], n => by cases n <;> rfl
  | a :: l, 0 => rfl
  | a :: l, n + 1 => by
    show nth l n = _
    rw [nth_eq l n]; rfl

/-! ### Working out turns nothing -/
@[simp] theorem forceN_eq (n : Nat) (c : Nat → β) : forceN n c = c n := by cases n <;> rfl
@[simp] theorem forceI_eq (n : Int) (c : Int → β) : forceI n c = c n := by
  cases n with
  | ofNat m => show forceN m (fun m => c (.ofNat m)) = _; rw [forceN_eq]
  | negSucc m => show forceN m (fun m => c (.negSucc m)) = _; rw [forceN_eq]
@[simp] theorem forceB_eq (b : Bool) (c : Bool → β) : forceB b c = c b := by cases b <;> rfl
@[simp] theorem forceC_eq (x : Cap) (c : Cap → β) : forceC x c = c x := by
  cases x with
  | ex m => show forceN m (fun m => c (.ex m)) = _; rw [forceN_eq]
  | up m => show forceN m (fun m => c (.up m)) = _; rw [forceN_eq]
theorem fvB_eq (b : Bool) (c : V → β) : fvB b c = c (.bool b) := by unfold fvB; rw [forceB_eq]
theorem fvI_eq (k : IntKind) (n : Int) (c : V → β) : fvI k n c = c (.int k n) := by unfold fvI; rw [forceI_eq]
theorem fvS_eq (l n : Nat) (c : V → β) : fvS l n c = c (.str l n) := by unfold fvS; rw [forceN_eq, forceN_eq]
theorem fvP_eq (b o : Nat) (c : V → β) : fvP b o c = c (.ptr b o) := by unfold fvP; rw [forceN_eq, forceN_eq]
theorem fvL_eq (b o l : Nat) (x : Cap) (c : V → β) : fvL b o l x c = c (.sl b o l x) := by unfold fvL; rw [forceN_eq, forceN_eq, forceN_eq, forceC_eq]
theorem fvM_eq (b : Nat) (c : V → β) : fvM b c = c (.map b) := by unfold fvM; rw [forceN_eq]
@[simp] theorem forceV_eq (v : V) (c : V → β) : forceV v c = c v := by
  cases v with
  | bool b => exact fvB_eq b c
  | int k n => exact fvI_eq k n c
  | str l n => exact fvS_eq l n c
  | ptr b o => exact fvP_eq b o c
  | sl b o l x => exact fvL_eq b o l x c
  | map b => exact fvM_eq b c
  | _ => rfl
@[simp] theorem forceL_eq : ∀ (l : List V) (c : List V → β), forceL l c = c l
  | [], _ => rfl
  | v :: l, c => by
    show forceV v (fun v => forceL l fun r => c (v :: r)) = _
    rw [forceV_eq, forceL_eq l]
@[simp] theorem forceU_eq (v : V) (c : V → β) : forceU v c = c v := by
  cases v with
  | agg l => show fwA l c = _; unfold fwA; rw [forceL_eq]
  | bool b => exact fvB_eq b c
  | int k n => exact fvI_eq k n c
  | str l n => exact fvS_eq l n c
  | ptr b o => exact fvP_eq b o c
  | sl b o l x => exact fvL_eq b o l x c
  | map b => exact fvM_eq b c
  | _ => rfl
@[simp] theorem forceUL_eq : ∀ (l : List V) (c : List V → β), forceUL l c = c l
  | [], _ => rfl
  | v :: l, c => by
    show forceU v (fun v => forceUL l fun r => c (v :: r)) = _
    rw [forceU_eq, forceUL_eq l]
@[simp] theorem forceW_eq (v : V) (c : V → β) : forceW v c = c v := by
  cases v with
  | agg l => show fwA l c = _; unfold fwA; rw [forceL_eq]
  | tup l => show fwT l c = _; unfold fwT; rw [forceUL_eq]
  | iface t v => show fwIf t v c = _; unfold fwIf; rw [forceU_eq]
  | fn f a b => show fwF f a b c = _; unfold fwF; rw [forceL_eq, forceL_eq]
  | bool b => exact fvB_eq b c
  | int k n => exact fvI_eq k n c
  | str l n => exact fvS_eq l n c
  | ptr b o => exact fvP_eq b o c
  | sl b o l x => exact fvL_eq b o l x c
  | map b => exact fvM_eq b c
  | _ => rfl

/-! ### What is set -/
def putT (tm : Env) (d : Option Tmp) (v : V) : Env := match d with | some d => tm.set d (some v) | none => tm
theorem putK_eq (d : Option Tmp) (v : V) (tm : Env) (c : Env → R) : putK d v tm c = c (putT tm d v) := by
  cases d with
  | none => rfl
  | some d => show forceW v (fun v => tm.setK d (some v) c) = _; rw [forceW_eq, Tr.setK_eq]; rfl
theorem done_eq (o : Oper) (v : V) (k : K) (tm : Env) (d : Dx) (t : Hp) (nx : Nat) : done o v k tm d t nx = k (putT tm o.dst v) d t nx := putK_eq _ _ _ _

/-! ### Asking -/
theorem oel_fail {o : Option α} {s : α → R} (h : oel o s .fail ≠ .fail) : ∃ a, o = some a ∧ oel o s .fail = s a := by
  cases o with
  | none => exact absurd rfl h
  | some a => exact ⟨a, rfl, rfl⟩
theorem bel_fail {b : Bool} {t : R} (h : bel b t .fail ≠ .fail) : b = true ∧ bel b t .fail = t := by
  cases b with
  | false => exact absurd rfl h
  | true => exact ⟨rfl, rfl⟩
theorem bel_fail' {b : Bool} {f : R} (h : bel b .fail f ≠ .fail) : b = false ∧ bel b .fail f = f := by
  cases b with
  | true => exact absurd rfl h
  | false => exact ⟨rfl, rfl⟩

/-- An operand's value. -/
def evO (x : Operand) (tm : Env) : Option V := ev x tm some none
theorem ev_eq (x : Operand) (tm : Env) (c : V → β) (n : β) : ev x tm c n = oel (evO x tm) c n := by
  cases x with
  | tmp t => show oel (tm.get t) c n = oel (oel (tm.get t) some none) c n; cases tm.get t <;> rfl
  | const v => show oel (ofValue v) c n = oel (oel (ofValue v) some none) c n; cases ofValue v <;> rfl
  | global g => show bel _ _ _ = oel (bel _ _ _) c n; cases Nat.ble (Nat.succ g) 64 <;> rfl
  | func f => rfl
def evsO : List Operand → Env → Option (List V)
  | [], _ => some []
  | x :: l, tm => match evO x tm, evsO l tm with | some v, some r => some (v :: r) | _, _ => none
theorem evs_eq (n : β) (tm : Env) : ∀ (l : List Operand) (c : List V → β), evs l tm c n = oel (evsO l tm) c n
  | [], _ => rfl
  | x :: l, c => by
    show ev x tm (fun v => evs l tm (fun r => c (v :: r)) n) n = _
    rw [ev_eq]
    unfold evsO
    cases evO x tm with
    | none => rfl
    | some v =>
      simp only [oel_some]
      rw [evs_eq n tm l]
      cases evsO l tm <;> rfl
def evpO : List (Nat × Operand) → Env → Option (List (Nat × V))
  | [], _ => some []
  | x :: l, tm => match evO x.2 tm, evpO l tm with | some v, some r => some ((x.1, v) :: r) | _, _ => none
theorem evp_eq (n : β) (tm : Env) : ∀ (l : List (Nat × Operand)) (c : List (Nat × V) → β), evParts l tm c n = oel (evpO l tm) c n
  | [], _ => rfl
  | x :: l, c => by
    show ev x.2 tm (fun v => evParts l tm (fun r => c ((x.1, v) :: r)) n) n = _
    rw [ev_eq]
    unfold evpO
    cases evO x.2 tm with
    | none => rfl
    | some v =>
      simp only [oel_some]
      rw [evp_eq n tm l]
      cases evpO l tm <;> rfl
theorem ev_fail {x : Operand} {tm : Env} {c : V → R} (h : ev x tm c .fail ≠ .fail) : ∃ v, evO x tm = some v ∧ ev x tm c .fail = c v := by
  rw [ev_eq] at h ⊢; exact oel_fail h
theorem evs_fail {l : List Operand} {tm : Env} {c : List V → R} (h : evs l tm c .fail ≠ .fail) : ∃ v, evsO l tm = some v ∧ evs l tm c .fail = c v := by
  rw [evs_eq] at h ⊢; exact oel_fail h
theorem evp_fail {l : List (Nat × Operand)} {tm : Env} {c : List (Nat × V) → R} (h : evParts l tm c .fail ≠ .fail) : ∃ v, evpO l tm = some v ∧ evParts l tm c .fail = c v := by
  rw [evp_eq] at h ⊢; exact oel_fail h

theorem onInt_fail {v : V} {c : IntKind → Int → R} (h : onInt v c .fail ≠ .fail) : ∃ k n, v = .int k n := by
  cases v <;> first | exact ⟨_, _, rfl⟩ | exact absurd rfl h
theorem onNat_fail {v : V} {c : Nat → R} (h : onNat v c .fail ≠ .fail) : ∃ k n, v = .int k (.ofNat n) := by
  obtain ⟨k, n, rfl⟩ := onInt_fail (v := v) h
  cases n with
  | ofNat n => exact ⟨_, _, rfl⟩
  | negSucc n => exact absurd rfl h
theorem onPtr_fail {v : V} {c : Nat → Nat → R} (h : onPtr v c .fail ≠ .fail) : ∃ b o, v = .ptr b o := by
  cases v <;> first | exact ⟨_, _, rfl⟩ | exact absurd rfl h
theorem onStr_fail {v : V} {c : Nat → Nat → R} (h : onStr v c .fail ≠ .fail) : ∃ l n, v = .str l n := by
  cases v <;> first | exact ⟨_, _, rfl⟩ | exact absurd rfl h
theorem onMap_fail {v : V} {c : Nat → R} (h : onMap v c .fail ≠ .fail) : ∃ b, v = .map b := by
  cases v <;> first | exact ⟨_, rfl⟩ | exact absurd rfl h
theorem onAgg_fail {v : V} {c : List V → R} (h : onAgg v c .fail ≠ .fail) : ∃ l, v = .agg l := by
  cases v <;> first | exact ⟨_, rfl⟩ | exact absurd rfl h
theorem onTup_fail {v : V} {c : List V → R} (h : onTup v c .fail ≠ .fail) : ∃ l, v = .tup l := by
  cases v <;> first | exact ⟨_, rfl⟩ | exact absurd rfl h
theorem onFn_fail {v : V} {c : FuncId → List V → List V → R} (h : onFn v c .fail ≠ .fail) : ∃ f a b, v = .fn f a b := by
  cases v <;> first | exact ⟨_, _, _, rfl⟩ | exact absurd rfl h
theorem onBool_fail {v : V} {t f : R} (h : onBool v t f .fail ≠ .fail) : ∃ b, v = .bool b := by
  cases v <;> first | exact ⟨_, rfl⟩ | exact absurd rfl h
end
end Go.X
end
