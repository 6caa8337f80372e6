/- A part of an evaluator of the model's calls and of the proof that it tells the truth. Conditions: those that the theorems name. -/
import Derived.Calls
import Derived.Orders
noncomputable section
namespace Go.Ev

def ob {α β : Type} (x : Option α) (f : α → Option β) : Option β := @Option.rec α (fun _ => Option β) none f x
def bi {α : Type} (b : Bool) (t f : α) : α := @Bool.rec (fun _ => α) f t b

inductive Tri (α : Type) where
  | leaf
  | node (v : Option α) (l r : Tri α)

def Tri.get {α : Type} (t : Tri α) : Nat → Option α :=
  @Tri.rec α (fun _ => Nat → Option α) (fun _ => none)
    (fun v _ _ gl gr k => bi (Nat.beq k (nat_lit 0)) v (bi (Nat.beq (Nat.mod k (nat_lit 2)) (nat_lit 1)) (gl (Nat.div k (nat_lit 2))) (gr (Nat.sub (Nat.div k (nat_lit 2)) (nat_lit 1))))) t

def putK {α : Type} (x : α) (ih : Nat → Tri α → Tri α) (k : Nat) (v : Option α) (l r : Tri α) : Tri α :=
  bi (Nat.beq k (nat_lit 0)) (.node (some x) l r)
    (bi (Nat.beq (Nat.mod k (nat_lit 2)) (nat_lit 1)) (.node v (ih (Nat.div k (nat_lit 2)) l) r) (.node v l (ih (Nat.sub (Nat.div k (nat_lit 2)) (nat_lit 1)) r)))

def Tri.put {α : Type} (x : α) (f : Nat) : Nat → Tri α → Tri α :=
  @Nat.rec (fun _ => Nat → Tri α → Tri α) (fun _ t => t)
    (fun _ ih k t => @Tri.rec α (fun _ => Tri α) (putK x ih k none .leaf .leaf) (fun v l r _ _ => putK x ih k v l r) t) f

def Tri.set {α : Type} (t : Tri α) (k : Nat) (x : α) : Tri α := Tri.put x (Nat.succ k) k t

inductive AV where
  | bool (b : Bool)
  | int (k : IntKind) (n : Int)
  | str (s : ByteArray)
  | ptr (b off : Nat)
  | nilptr
  | slice (b off len cap es : Nat)
  | nilslice
  | map (r : Nat)
  | nilmap
  | func (f : FuncId) (first captured : List AV)
  | nilfunc
  | yfn
  | iface (t : TypeId) (v : AV)
  | nili
  | agg (l : List AV)
  | tup (l : List AV)
  deriving Inhabited

inductive Blk where
  | cells (n : Nat) (t : Tri AV)
  | emap
  | dead

structure Hp where
  next : Nat
  m : Tri Blk

abbrev Env := Tri AV

def undef : AV := .tup []

/-! looks at values -/
def AV.bool? (v : AV) : Option Bool :=
  match v with | .bool b => some b | _ => none
def AV.int? (v : AV) : Option (IntKind × Int) :=
  match v with | .int k n => some (k, n) | _ => none
def AV.str? (v : AV) : Option ByteArray :=
  match v with | .str s => some s | _ => none
def AV.ptr? (v : AV) : Option (Nat × Nat) :=
  match v with | .ptr b o => some (b, o) | _ => none
structure Sl where
  b : Nat
  off : Nat
  len : Nat
  cap : Nat
  es : Nat
def AV.slice? (v : AV) : Option Sl :=
  match v with | .slice b o n c s => some ⟨b, o, n, c, s⟩ | _ => none
def AV.isNilSlice (v : AV) : Bool :=
  match v with | .nilslice => true | _ => false
def AV.map? (v : AV) : Option Nat :=
  match v with | .map r => some r | _ => none
structure Fv where
  f : FuncId
  first : List AV
  cap : List AV
def AV.func? (v : AV) : Option Fv :=
  match v with | .func f a b => some ⟨f, a, b⟩ | _ => none
def AV.agg? (v : AV) : Option (List AV) :=
  match v with | .agg l => some l | _ => none
def AV.tup? (v : AV) : Option (List AV) :=
  match v with | .tup l => some l | _ => none
def AV.cells (v : AV) : Option (List AV) :=
  match v with | .agg l => some l | .tup _ => none | v => some [v]

/-! numbers -/
def subNN (m n : Nat) : Int := bi (Nat.ble n m) (Int.ofNat (Nat.sub m n)) (Int.negSucc (Nat.sub (Nat.sub n m) (nat_lit 1)))
def iadd (a b : Int) : Int :=
  @Int.rec (fun _ => Int) (fun m => @Int.rec (fun _ => Int) (fun n => .ofNat (Nat.add m n)) (fun n => subNN m (Nat.succ n)) b)
    (fun m => @Int.rec (fun _ => Int) (fun n => subNN n (Nat.succ m)) (fun n => .negSucc (Nat.succ (Nat.add m n))) b) a
def ineg (a : Int) : Int := @Int.rec (fun _ => Int) (fun m => subNN (nat_lit 0) m) (fun m => .ofNat (Nat.succ m)) a
def isub (a b : Int) : Int := iadd a (ineg b)
def imul (a b : Int) : Int :=
  @Int.rec (fun _ => Int) (fun m => @Int.rec (fun _ => Int) (fun n => .ofNat (Nat.mul m n)) (fun n => ineg (.ofNat (Nat.mul m (Nat.succ n)))) b)
    (fun m => @Int.rec (fun _ => Int) (fun n => ineg (.ofNat (Nat.mul (Nat.succ m) n))) (fun n => .ofNat (Nat.mul (Nat.succ m) (Nat.succ n))) b) a
def ieq (a b : Int) : Bool :=
  @Int.rec (fun _ => Bool) (fun m => @Int.rec (fun _ => Bool) (fun n => Nat.beq m n) (fun _ => false) b)
    (fun m => @Int.rec (fun _ => Bool) (fun _ => false) (fun n => Nat.beq m n) b) a
def ile (a b : Int) : Bool :=
  @Int.rec (fun _ => Bool) (fun m => @Int.rec (fun _ => Bool) (fun n => Nat.ble m n) (fun _ => false) b)
    (fun m => @Int.rec (fun _ => Bool) (fun _ => true) (fun n => Nat.ble n m) b) a
/-- A number by whether it is below 0. -/
def icase {α : Type} (a : Int) (p : Nat → α) (q : Nat → α) : α := @Int.rec (fun _ => α) p q a

def wrapS (k : IntKind) (lim : Nat) (n : Int) : Int :=
  icase n (fun m => bi (Nat.ble m lim) (.ofNat m) (k.wrap n)) (fun m => bi (Nat.ble m lim) (.negSucc m) (k.wrap n))
def wrapU (k : IntKind) (md : Nat) (n : Int) : Int :=
  icase n (fun m => .ofNat (Nat.mod m md)) (fun _ => k.wrap n)
def fwrap (k : IntKind) : Int → Int :=
  @IntKind.rec (fun _ => Int → Int) (wrapS .i8 (nat_lit 127)) (wrapS .i16 (nat_lit 32767)) (wrapS .i32 (nat_lit 2147483647)) (wrapS .i64 (nat_lit 9223372036854775807))
    (wrapU .u8 (nat_lit 256)) (wrapU .u16 (nat_lit 65536)) (wrapU .u32 (nat_lit 4294967296)) (wrapU .u64 (nat_lit 18446744073709551616)) k

def kEq (a b : IntKind) : Bool := Nat.beq (a.ctorIdx) (b.ctorIdx)

/-- The greatest number of a kind. -/
def kMax (k : IntKind) : Nat :=
  @IntKind.rec (fun _ => Nat) (nat_lit 127) (nat_lit 32767) (nat_lit 2147483647) (nat_lit 9223372036854775807)
    (nat_lit 255) (nat_lit 65535) (nat_lit 4294967295) (nat_lit 18446744073709551615) k

def fbits (fast : Nat → Nat → Nat) (slow : (n : Nat) → BitVec n → BitVec n → BitVec n) (k : IntKind) (a b : Int) : Int :=
  icase a
    (fun m => icase b
      (fun n => bi (Nat.ble m (kMax k)) (bi (Nat.ble n (kMax k)) (.ofNat (fast m n)) (k.wrap (slow k.bits (BitVec.ofInt k.bits a) (BitVec.ofInt k.bits b)).toNat)) (k.wrap (slow k.bits (BitVec.ofInt k.bits a) (BitVec.ofInt k.bits b)).toNat))
      (fun _ => k.wrap (slow k.bits (BitVec.ofInt k.bits a) (BitVec.ofInt k.bits b)).toNat))
    (fun _ => k.wrap (slow k.bits (BitVec.ofInt k.bits a) (BitVec.ofInt k.bits b)).toNat)

def fquo (a b : Int) : Int := icase a (fun m => icase b (fun n => .ofNat (Nat.div m n)) (fun _ => a.tdiv b)) (fun _ => a.tdiv b)
def frem (a b : Int) : Int := icase a (fun m => icase b (fun n => .ofNat (Nat.mod m n)) (fun _ => a.tmod b)) (fun _ => a.tmod b)

def int2 (f : IntKind → Int → Int → Option AV) (x y : AV) : Option AV :=
  ob x.int? fun p => ob y.int? fun q => bi (kEq p.1 q.1) (f p.1 p.2 q.2) none
def arith (f : Int → Int → Int) : IntKind → Int → Int → Option AV := fun k a b => some (.int k (fwrap k (f a b)))
def divz (f : Int → Int → Int) : IntKind → Int → Int → Option AV := fun k a b => bi (ieq b 0) none (some (.int k (fwrap k (f a b))))
def remz : IntKind → Int → Int → Option AV := fun k a b => bi (ieq b 0) none (some (.int k (frem a b)))
def cmpI (f : Int → Int → Bool) : IntKind → Int → Int → Option AV := fun _ a b => some (.bool (f a b))
def bitI (f : Nat → Nat → Nat) (s : (n : Nat) → BitVec n → BitVec n → BitVec n) : IntKind → Int → Int → Option AV := fun k a b => some (.int k (fbits f s k a b))
def shf (f : IntKind → Int → Nat → Int) (x y : AV) : Option AV :=
  ob x.int? fun p => ob y.int? fun q => icase q.2 (fun n => some (.int p.1 (f p.1 p.2 n))) (fun _ => none)
def shlI (k : IntKind) (a : Int) (n : Nat) : Int := fwrap k (imul a (.ofNat (Nat.pow (nat_lit 2) (bi (Nat.ble n k.bits) n k.bits))))
def shrI (k : IntKind) (a : Int) (n : Nat) : Int :=
  icase a (fun m => .ofNat (Nat.div m (Nat.pow (nat_lit 2) (bi (Nat.ble n k.bits) n k.bits)))) (fun _ => a.fdiv (2 ^ (min n k.bits) : Nat))
def eqA (neg : Bool) (x y : AV) : Option AV :=
  @Option.rec ByteArray (fun _ => Option AV) (int2 (cmpI fun a b => xor neg (ieq a b)) x y) (fun s => ob y.str? fun t => some (.bool (xor neg (s.toList == t.toList)))) x.str?

def binA (op : BinOp) : AV → AV → Option AV :=
  match op with
  | .add => int2 (arith iadd)
  | .sub => int2 (arith isub)
  | .mul => int2 (arith imul)
  | .quo => int2 (divz fquo)
  | .rem => int2 remz
  | .and => int2 (bitI Nat.land fun _ a b => a &&& b)
  | .or => int2 (bitI Nat.lor fun _ a b => a ||| b)
  | .xor => int2 (bitI Nat.xor fun _ a b => a ^^^ b)
  | .andNot => fun _ _ => none
  | .eql => eqA false
  | .neq => eqA true
  | .lss => int2 (cmpI fun a b => !ile b a)
  | .leq => int2 (cmpI ile)
  | .gtr => int2 (cmpI fun a b => !ile a b)
  | .geq => int2 (cmpI fun a b => ile b a)
  | .shl => shf shlI
  | .shr => shf shrI

def unA (op : UnOp) : AV → Option AV :=
  match op with
  | .neg => fun x => ob x.int? fun p => some (.int p.1 (fwrap p.1 (ineg p.2)))
  | .xor => fun x => ob x.int? fun p => some (.int p.1 (fbits Nat.xor (fun _ a b => a ^^^ b) p.1 (bi p.1.signed (Int.negSucc 0) (.ofNat (kMax p.1))) p.2))
  | .not => fun x => ob x.bool? fun b => some (.bool (!b))
  | .plus => fun _ => none

/-! constants -/
def ofV1 : Value → Option AV
  | .bool b => some (.bool b)
  | .int k n => some (.int k n)
  | .string s => some (.str s)
  | .pointer none => some .nilptr
  | .slice none 0 0 => some .nilslice
  | .map none => some .nilmap
  | .nilFunc => some .nilfunc
  | .nilIface => some .nili
  | _ => none
def ofVs : List Value → Option (List AV)
  | [] => some []
  | v :: l => ob (ofV1 v) fun x => ob (ofVs l) fun xs => some (x :: xs)
def ofV : Value → Option AV
  | .agg cs => (ofVs cs.toList).map .agg
  | .tuple vs => (ofVs vs.toList).map .tup
  | v => ofV1 v

def evTmp (t : Nat) (e : Env) : Option AV := some (@Option.rec AV (fun _ => AV) undef (fun v => v) (e.get t))
def ev (x : Operand) : Env → Option AV :=
  match x with
  | .tmp t => evTmp t
  | .const v => fun _ => ofV v
  | .func f => fun _ => some (.func f [] [])
  | .global _ => fun _ => none
def evs (l : List Operand) : Env → Option (List AV) :=
  @List.rec Operand (fun _ => Env → Option (List AV)) (fun _ => some []) (fun x _ ih e => ob (ev x e) fun v => ob (ih e) fun vs => some (v :: vs)) l

/-! types -/
def sizeT (P : Program) (t : TypeId) : Option Nat := (P.info? t).map (·.size)
def aggT (P : Program) (t : TypeId) : Option Bool := (P.underlying t).map fun | .struct _ | .array _ _ => true | _ => false
def zeroT (P : Program) (t : TypeId) : Option AV :=
  match P.info? t with
  | some i => match i.zero with | some v => ofV v | none => none
  | none => none
def elemT (P : Program) (t : TypeId) : Option TypeId :=
  match P.underlying t with
  | some (.slice e) => some e
  | _ => none
def fieldT (P : Program) (t : TypeId) (i : Nat) : Option (Nat × TypeId) :=
  match P.underlying t with
  | some (.struct fs) => (fs[i]?).map fun f => (f.offset, f.type)
  | _ => none
def kindT (P : Program) (t : TypeId) : Option IntKind :=
  match P.underlying t with
  | some (.int k) => some k
  | _ => none
def isStrT (P : Program) (t : TypeId) : Bool :=
  match P.underlying t with
  | some .string => true
  | _ => false

/-! cells -/
def readN (t : Tri AV) (n : Nat) : Nat → Option (List AV) :=
  @Nat.rec (fun _ => Nat → Option (List AV)) (fun _ => some []) (fun _ ih off => ob (t.get off) fun v => ob (ih (Nat.succ off)) fun l => some (v :: l)) n
def writeN (l : List AV) : Nat → Tri AV → Tri AV :=
  @List.rec AV (fun _ => Nat → Tri AV → Tri AV) (fun _ t => t) (fun v _ ih off t => ih (Nat.succ off) (t.set off v)) l
def rep (z : List AV) : Nat → List AV
  | 0 => []
  | n + 1 => z ++ rep z n
def len (l : List AV) : Nat := @List.rec AV (fun _ => Nat) (nat_lit 0) (fun _ _ n => Nat.succ n) l
def cellsOf (l : List AV) : Blk := .cells (len l) (writeN l (nat_lit 0) .leaf)
def sub (l : List AV) (off n : Nat) : List AV := (l.drop off).take n
def fillL (l : List AV) (off : Nat) (v : List AV) : List AV := l.take off ++ v ++ l.drop (off + v.length)

def leq (a b : Nat) : Bool := Nat.ble a b

def fillG (pl : Nat → Option (Nat × Nat)) (ps : List (Nat × Operand)) : Env → List AV → Option (List AV) :=
  @List.rec (Nat × Operand) (fun _ => Env → List AV → Option (List AV)) (fun _ cs => some cs)
    (fun p _ ih e cs => ob (pl p.1) fun fo => ob (ev p.2 e) fun v =>
      ob v.cells fun vc => bi (Nat.beq (len vc) fo.2) (bi (Nat.ble (Nat.add fo.1 fo.2) (len cs)) (ih e (fillL cs fo.1 vc)) none) none) ps
def fillE (n : Nat) (ps : List (Nat × Operand)) : Env → List AV → Option (List AV) := fillG (fun i => some (Nat.mul i n, n)) ps
def placesT (P : Program) (t : TypeId) : Option (List (Nat × Nat)) :=
  match P.underlying t with
  | some (.struct fs) => fs.toList.mapM fun f => (P.info? f.type).map fun i => (f.offset, i.size)
  | _ => none

def minmaxA (isMin : Bool) (l : List AV) : Option AV :=
  match l with
  | [] => none
  | v :: l => ob v.int? fun p => @List.rec AV (fun _ => Int → Option AV) (fun x => some (.int p.1 x))
      (fun w _ ih x => ob w.int? fun q => ih (bi isMin (bi (ile x q.2) x q.2) (bi (ile q.2 x) x q.2))) l p.2

def bound? (x : AV) : Option Nat := ob x.int? fun p => icase p.2 some (fun _ => none)
def optB (d : Nat) (x : Option AV) : Option Nat := @Option.rec AV (fun _ => Option Nat) (some d) bound? x

def sliceS (size : Nat) (lo hi : Option AV) (s : Sl) : Option AV :=
  ob (optB (nat_lit 0) lo) fun l => ob (optB s.len hi) fun h =>
    bi (Nat.beq s.es size) (bi (Nat.ble l h) (bi (Nat.ble h s.cap) (some (.slice s.b (Nat.add s.off (Nat.mul l size)) (Nat.sub h l) (Nat.sub s.cap l) size)) none) none) none
def sliceNil (lo hi : Option AV) : Option AV :=
  ob (optB (nat_lit 0) lo) fun l => ob (optB (nat_lit 0) hi) fun h => bi (Nat.beq l (nat_lit 0)) (bi (Nat.beq h (nat_lit 0)) (some .nilslice) none) none
def sliceV (size : Nat) (lo hi : Option AV) (x : AV) : Option AV :=
  bi x.isNilSlice (sliceNil lo hi) (ob x.slice? (sliceS size lo hi))
def sliceStr (lo hi : Option AV) (x : AV) : Option AV :=
  ob x.str? fun s => ob (optB (nat_lit 0) lo) fun l => ob (optB s.size hi) fun h =>
    bi (Nat.ble l h) (bi (Nat.ble h s.size) (some (.str (s.extract l h))) none) none
def evopt (x : Option Operand) : Env → Option (Option AV) :=
  match x with
  | none => fun _ => some none
  | some x => fun e => ob (ev x e) fun v => some (some v)

/-! pure operations: closures -/
abbrev PF := Env → Option AV
def fail : PF := fun _ => none

def cPick (c a b : Operand) : PF := fun e => ob (ev c e) fun v => ob v.bool? fun t => bi t (ev a e) (ev b e)
def cBin (f : AV → AV → Option AV) (x y : Operand) : PF := fun e => ob (ev x e) fun a => ob (ev y e) fun b => f a b
def cUn (f : AV → Option AV) (x : Operand) : PF := fun e => ob (ev x e) f
def cConv (k : Option IntKind) (x : Operand) : PF :=
  match k with
  | some k => fun e => ob (ev x e) fun v => ob v.int? fun p => some (.int k (fwrap k p.2))
  | none => fail
def cNil (x : Operand) : PF := fun e => ob (ev x e) fun v => ob v.ptr? fun p => some (.ptr p.1 p.2)
def cFieldAddr (f : Option (Nat × Nat)) (x : Operand) : PF :=
  match f with
  | some (fo, _ + 1) => fun e => ob (ev x e) fun v => ob v.ptr? fun p => some (.ptr p.1 (Nat.add p.2 fo))
  | _ => fail
def cIndexAddr (sz : Option Nat) (x i : Operand) : PF :=
  match sz with
  | some n => fun e => ob (ev x e) fun v => ob v.slice? fun s => ob (ev i e) fun iv => ob (bound? iv) fun j =>
      bi (Nat.ble (Nat.succ j) s.len) (some (.ptr s.b (Nat.add s.off (Nat.mul j n)))) none
  | none => fail
def partA (agg : Bool) (l : List AV) (off n : Nat) : Option AV := bi agg (some (.agg (sub l off n))) (l[off]?)
def cField (f : Option (Nat × Bool × Nat)) (x : Operand) : PF :=
  match f with
  | some (fo, g, n) => fun e => ob (ev x e) fun v => ob v.agg? fun l => partA g l fo n
  | none => fail
def cIndexStr (x i : Operand) : PF := fun e => ob (ev x e) fun v => ob v.str? fun s => ob (ev i e) fun iv => ob (bound? iv) fun j => ob (s[j]?) fun b => some (.int .u8 b.toNat)
def cIndexArr (f : Option (Nat × Bool × Nat)) (x i : Operand) : PF :=
  match f with
  | some (n, g, k) => fun e => ob (ev x e) fun v => ob v.agg? fun l => ob (ev i e) fun iv => ob (bound? iv) fun j => bi (Nat.ble (Nat.succ j) n) (partA g l (Nat.mul j k) k) none
  | none => fail
def cExtract (x : Operand) (i : Nat) : PF := fun e => ob (ev x e) fun v => ob v.tup? fun l => l[i]?
def cBuildS (pl : Option (List (Nat × Nat))) (z : Option AV) (ps : List (Nat × Operand)) : PF :=
  match pl, z with
  | some pl, some z => fun e => ob z.cells fun zc => ob (fillG (fun i => pl[i]?) ps e zc) fun l => some (.agg l)
  | _, _ => fail
def cBuildE (n : Option Nat) (z : Option AV) (ps : List (Nat × Operand)) : PF :=
  match n, z with
  | some n, some z => fun e => ob z.cells fun zc => ob (fillE n ps e zc) fun l => some (.agg l)
  | _, _ => fail
def cFunc (f : FuncId) (a b : List Operand) : PF := fun e => ob (evs a e) fun x => ob (evs b e) fun y => some (.func f x y)
def cSlice (n : Option Nat) (x : Operand) (lo hi : Option Operand) : PF :=
  match n with
  | some n => fun e => ob (ev x e) fun v => ob (evopt lo e) fun l => ob (evopt hi e) fun h => sliceV n l h v
  | none => fail
def cSliceStr (x : Operand) (lo hi : Option Operand) : PF := fun e => ob (ev x e) fun v => ob (evopt lo e) fun l => ob (evopt hi e) fun h => sliceStr l h v
def lenS (v : AV) : Option AV := bi v.isNilSlice (some (.int .i64 0)) (ob v.slice? fun s => some (.int .i64 (.ofNat s.len)))
def lenStr (v : AV) : Option AV := ob v.str? fun s => some (.int .i64 (.ofNat s.size))
def cLenS (x : Operand) : PF := fun e => ob (ev x e) lenS
def cLenStr (x : Operand) : PF := fun e => ob (ev x e) lenStr
def cMinMax (m : Bool) (l : List Operand) : PF := fun e => ob (evs l e) (minmaxA m)

def convK (P : Program) (s d : TypeId) : Option IntKind := match P.underlying s with | some _ => kindT P d | none => none
def fieldC (P : Program) (s : TypeId) (f : Nat) : Option (Nat × Nat) := ob (fieldT P s f) fun p => ob (sizeT P p.2) fun n => some (p.1, n)
def fieldG (P : Program) (s : TypeId) (f : Nat) : Option (Nat × Bool × Nat) := ob (fieldT P s f) fun p => ob (aggT P p.2) fun g => ob (sizeT P p.2) fun n => some (p.1, g, n)
def arrG (P : Program) (t : TypeId) : Option (Nat × Bool × Nat) :=
  match P.underlying t with
  | some (.array n el) => ob (aggT P el) fun g => ob (sizeT P el) fun k => some (n, g, k)
  | _ => none
def elemSize (P : Program) (t : TypeId) : Option Nat := ob (elemT P t) (sizeT P)

def evCallP (P : Program) (c : Call) : PF :=
  match c.callee with
  | .builtin .len =>
    match c.args.toList, c.argTypes.toList with
    | [x], [t] => bi (isStrT P t) (cLenStr x) (@Option.rec TypeId (fun _ => PF) fail (fun _ => cLenS x) (elemT P t))
    | _, _ => fail
  | .builtin .min => cMinMax true c.args.toList
  | .builtin .max => cMinMax false c.args.toList
  | _ => fail

def evP (P : Program) (o : Op) : PF :=
  match o with
  | .move x => ev x
  | .assign x => ev x
  | .pick c a b => cPick c a b
  | .binOp op _ x y _ => cBin (binA op) x y
  | .unOp op _ x => cUn (unA op) x
  | .convert src dst x => cConv (convK P src dst) x
  | .nilCheck x => cNil x
  | .fieldAddr s x f => cFieldAddr (fieldC P s f) x
  | .indexAddr t x i => cIndexAddr (elemSize P t) x i
  | .field s x f => cField (fieldG P s f) x
  | .index t x i => bi (isStrT P t) (cIndexStr x i) (cIndexArr (arrG P t) x i)
  | .extract x i => cExtract x i
  | .build t ps =>
    match P.underlying t with
    | some (.struct _) => cBuildS (placesT P t) (zeroT P t) ps.toList
    | some (.array _ el) => cBuildE (sizeT P el) (zeroT P t) ps.toList
    | _ => fail
  | .makeFunc (.func f) first cap => cFunc f first.toList cap.toList
  | .slice t x lo hi none => bi (isStrT P t) (cSliceStr x lo hi) (cSlice (elemSize P t) x lo hi)
  | .call c => evCallP P c
  | _ => fail

/-! operations that only read -/
inductive Rd where
  | load (b off n : Nat) (agg : Bool)
  | bytes (b off n : Nat)
  | nobytes
  | look (r : Nat) (z : AV) (ok : Bool)

structure Cl where
  n : Nat
  t : Tri AV
def Blk.cells? (b : Blk) : Option Cl := @Blk.rec (fun _ => Option Cl) (fun n t => some ⟨n, t⟩) none none b
def Blk.isMap (b : Blk) : Bool := @Blk.rec (fun _ => Bool) (fun _ _ => false) true false b

def bytesOf (l : List AV) : ByteArray → Option ByteArray :=
  match l with
  | [] => fun s => some s
  | .int .u8 n :: l => fun s => bytesOf l (s.push (UInt8.ofNat n.toNat))
  | _ => fun _ => none

def rdLoad (h : Hp) (b off n : Nat) (agg : Bool) : Option AV :=
  ob (h.m.get b) fun k => ob k.cells? fun c =>
    bi (Nat.ble (Nat.add off n) c.n) (bi agg (ob (readN c.t n off) fun l => some (.agg l)) (bi (Nat.beq n (nat_lit 1)) (c.t.get off) none)) none
def rdBytes (h : Hp) (b off n : Nat) : Option AV :=
  ob (h.m.get b) fun k => ob k.cells? fun c =>
    bi (Nat.ble (Nat.add off n) c.n) (ob (readN c.t n off) fun l => ob (bytesOf l ByteArray.empty) fun s => some (.str s)) none
def rdLook (h : Hp) (r : Nat) (z : AV) (ok : Bool) : Option AV :=
  ob (h.m.get r) fun k => bi k.isMap (some (bi ok (.tup [z, .bool false]) z)) none

def Rd.run (h : Hp) (r : Rd) : Option AV :=
  @Rd.rec (fun _ => Option AV) (rdLoad h) (rdBytes h) (some (.str ByteArray.empty)) (rdLook h) r

abbrev RF := Env → Option Rd
def rfail : RF := fun _ => none
def cLoad (g : Option Bool) (n : Option Nat) (a : Operand) : RF :=
  match g, n with
  | some g, some n => fun e => ob (ev a e) fun v => ob v.ptr? fun p => some (.load p.1 p.2 n g)
  | _, _ => rfail
def cBytes (k : Option IntKind) (x : Operand) : RF :=
  match k with
  | some .u8 => fun e => ob (ev x e) fun v => bi v.isNilSlice (some .nobytes) (ob v.slice? fun s => some (.bytes s.b s.off s.len))
  | _ => rfail
def cLook (z : Option AV) (x i : Operand) (ok : Bool) : RF :=
  match z with
  | some z => fun e => ob (ev x e) fun v => ob v.map? fun r => ob (ev i e) fun iv => ob iv.int? fun _ => some (.look r z ok)
  | none => rfail
def mapT (P : Program) (t : TypeId) : Option AV :=
  match P.underlying t with
  | some (.map k el) => ob (kindT P k) fun _ => zeroT P el
  | _ => none
def evR (P : Program) (o : Op) : RF :=
  match o with
  | .load t a => cLoad (aggT P t) (sizeT P t) a
  | .convert src dst x => bi (isStrT P dst) (cBytes (ob (elemT P src) (kindT P)) x) rfail
  | .lookup t x i ok => cLook (mapT P t) x i ok
  | _ => rfail

/-! operations that only make a block -/
inductive Mk where
  | ptr (l : List AV)
  | slice (l : List AV) (len cap es : Nat)
  | map
def Mk.blk (m : Mk) : Blk := @Mk.rec (fun _ => Blk) cellsOf (fun l _ _ _ => cellsOf l) .emap m
def Mk.val (id : Nat) (m : Mk) : AV := @Mk.rec (fun _ => AV) (fun _ => .ptr id (nat_lit 0)) (fun _ len cap es => .slice id (nat_lit 0) len cap es) (.map id) m

abbrev AF := Env → Option Mk
def afail : AF := fun _ => none
def cAlloc (z : Option AV) : AF :=
  match z with
  | some z => fun _ => ob z.cells fun l => some (.ptr l)
  | none => afail
def cBox (x : Operand) : AF := fun e => ob (ev x e) fun v => ob v.cells fun l => some (.ptr l)
def cBuildSlice (n : Option Nat) (z : Option AV) (len' : Nat) (ps : List (Nat × Operand)) : AF :=
  match n, z with
  | some n, some z => fun e => ob z.cells fun zc => ob (fillE n ps e (rep zc len')) fun l =>
      bi (Nat.ble (Nat.mul len' n) (nat_lit 16777216)) (bi (Nat.beq (len zc) n) (some (.slice l len' len' n)) none) none
  | _, _ => afail
def cMakeSlice (ok : Bool) (n : Option Nat) (z : Option AV) (l c : Operand) : AF :=
  match ok, n, z with
  | true, some n, some z => fun e => ob z.cells fun zc => ob (ev l e) fun lv => ob (ev c e) fun cv => ob (bound? lv) fun len' => ob (bound? cv) fun cap =>
      bi (Nat.ble len' cap) (bi (Nat.ble cap (nat_lit 65536)) (bi (Nat.beq (len zc) n) (some (.slice (rep zc cap) len' cap n)) none) none) none
  | _, _, _ => afail
def smallT (P : Program) (t : TypeId) : Bool :=
  match ob (elemT P t) P.info? with
  | some i => match i.zero with
    | some z => Nat.ble i.bytes (nat_lit 65536) && Nat.beq z.cells.size i.size
    | none => false
  | none => false
def evA (P : Program) (o : Op) : AF :=
  match o with
  | .alloc t => cAlloc (zeroT P t)
  | .box _ x => cBox x
  | .buildSlice t len ps => cBuildSlice (elemSize P t) (ob (elemT P t) (zeroT P)) len ps.toList
  | .makeSlice t l c => cMakeSlice (smallT P t) (elemSize P t) (ob (elemT P t) (zeroT P)) l c
  | .makeMap _ none => fun _ => some .map
  | _ => afail

def Hp.add (h : Hp) (b : Blk) : Hp := ⟨Nat.succ h.next, h.m.set h.next b⟩

/-! operations that write -/
abbrev CallF := FuncId → List AV → Hp → Option (AV × Hp)
abbrev WF := CallF → Env → Hp → Option (AV × Hp)
def wfail : WF := fun _ _ _ => none
def storeK (n : Nat) (h : Hp) (p : Nat × Nat) (x : List AV) : Option (AV × Hp) :=
  ob (h.m.get p.1) fun k => ob k.cells? fun c =>
    bi (Nat.beq (len x) n) (bi (Nat.ble (Nat.add p.2 n) c.n) (some (undef, ⟨h.next, h.m.set p.1 (.cells c.n (writeN x p.2 c.t))⟩)) none) none
def cStore (n : Option Nat) (a v : Operand) : WF :=
  match n with
  | some n => fun _ e h => ob (ev a e) fun av => ob av.ptr? fun p => ob (ev v e) fun x => ob x.cells fun xc => storeK n h p xc
  | none => wfail

def srcS (h : Hp) (size : Nat) (s : Sl) : Option (Nat × List AV) :=
  ob (h.m.get s.b) fun k => ob k.cells? fun c =>
    bi (Nat.ble (Nat.add s.off (Nat.mul s.len size)) c.n) (ob (readN c.t (Nat.mul s.len size) s.off) fun l => some (s.len, l)) none
def srcA (h : Hp) (size : Nat) (x : AV) : Option (Nat × List AV) :=
  bi x.isNilSlice (some ((nat_lit 0), []))
    (@Option.rec Sl (fun _ => Option (Nat × List AV)) (ob x.str? fun s => bi (Nat.beq size (nat_lit 1)) (some (s.size, s.data.toList.map fun b => .int .u8 b.toNat)) none) (srcS h size) x.slice?)
def appNil (size : Nat) (h : Hp) (p : Nat × List AV) : Option (AV × Hp) :=
  bi (Nat.beq p.1 (nat_lit 0)) (some (.nilslice, h)) (bi (Nat.ble p.1 (nat_lit 65536)) (some (.slice h.next (nat_lit 0) p.1 p.1 size, h.add (cellsOf p.2))) none)
def appS (size : Nat) (h : Hp) (s : Sl) (p : Nat × List AV) : Option (AV × Hp) :=
  ob (h.m.get s.b) fun k => ob k.cells? fun c =>
    bi (Nat.beq s.es size) (bi (Nat.ble (Nat.add s.off (Nat.mul s.len size)) c.n) (bi (Nat.ble (Nat.add s.len p.1) (nat_lit 65536))
      (bi (Nat.beq s.off (nat_lit 0))
        (some (.slice h.next (nat_lit 0) (Nat.add s.len p.1) (Nat.add s.len p.1) size,
          ⟨Nat.succ h.next, (h.m.set s.b .dead).set h.next (.cells (Nat.mul (Nat.add s.len p.1) size) (writeN p.2 (Nat.mul s.len size) c.t))⟩))
        (ob (readN c.t (Nat.mul s.len size) s.off) fun old =>
          some (.slice h.next (nat_lit 0) (Nat.add s.len p.1) (Nat.add s.len p.1) size, ⟨Nat.succ h.next, (h.m.set s.b .dead).set h.next (cellsOf (old ++ p.2))⟩)))
      none) none) none
def appendA (size : Nat) (h : Hp) (s x : AV) : Option (AV × Hp) :=
  ob (srcA h size x) fun p => bi s.isNilSlice (appNil size h p) (ob s.slice? fun sl => appS size h sl p)
def cAppend (ok : Bool) (n : Option Nat) (s x : Operand) : WF :=
  match ok, n with
  | true, some n => fun _ e h => ob (ev s e) fun sv => ob (ev x e) fun xv => appendA n h sv xv
  | _, _ => wfail
def callK (call : CallF) (h : Hp) (args : List AV) (f : Fv) : Option (AV × Hp) := call f.f (f.first ++ args ++ f.cap) h
def cCall (f : Operand) (l : List Operand) : WF := fun call e h => ob (ev f e) fun fv => ob fv.func? fun g => ob (evs l e) fun args => callK call h args g
def clsT (P : Program) (t : TypeId) : Bool := match P.underlying t with | some (.int _) => true | _ => false
def srcOk (P : Program) (t : TypeId) : Bool := match P.underlying t with | some (.slice _) => true | some .string => true | _ => false
def evCallW (P : Program) (c : Call) : WF :=
  match c.callee with
  | .builtin .append =>
    match c.args.toList, c.argTypes.toList with
    | [s, x], [t, u] => cAppend (smallT P t && srcOk P u) (elemSize P t) s x
    | _, _ => wfail
  | .value f => cCall f c.args.toList
  | _ => wfail
def mapStr (P : Program) (t : TypeId) : Bool :=
  match P.underlying t with
  | some (.map k _) => isStrT P k
  | _ => false
/-- The map's one insertion: what the map holds then is not kept. -/
def cInsert (ok : Bool) (m k x : Operand) : WF :=
  match ok with
  | true => fun _ e h => ob (ev m e) fun mv => ob mv.map? fun r => ob (ev k e) fun kv => ob kv.str? fun _ => ob (ev x e) fun _ =>
      ob (h.m.get r) fun b => bi b.isMap (some (undef, ⟨h.next, h.m.set r .dead⟩)) none
  | false => wfail
def evW (P : Program) (o : Op) : WF :=
  match o with
  | .insert t m k x => cInsert (mapStr P t) m k x
  | .store t a v => cStore (sizeT P t) a v
  | .call c => evCallW P c
  | _ => wfail

/-! an operation, compiled -/
inductive CO where
  | p (f : PF)
  | r (f : RF)
  | a (f : AF)
  | w (f : WF)
def isPureCall (c : Call) : Bool :=
  match c.callee with
  | .builtin .len | .builtin .min | .builtin .max => true
  | _ => false
def comp (P : Program) (o : Op) : CO :=
  match o with
  | .load .. | .lookup .. => .r (evR P o)
  | .convert _ dst _ => bi (clsT P dst) (.p (evP P o)) (.r (evR P o))
  | .alloc _ | .box .. | .buildSlice .. | .makeSlice .. | .makeMap .. => .a (evA P o)
  | .store .. | .insert .. => .w (evW P o)
  | .call c => bi (isPureCall c) (.p (evP P o)) (.w (evW P o))
  | _ => .p (evP P o)

def putO (nt : Nat) (d : Option Tmp) : AV → Env → Option Env :=
  match d with
  | none => fun _ e => some e
  | some t => bi (Nat.ble (Nat.succ t) nt) (fun v e => some (e.set t v)) (fun _ _ => none)

def runP (f : PF) (e : Env) (h : Hp) : Option (AV × Hp) := ob (f e) fun v => some (v, h)
def runR (f : RF) (e : Env) (h : Hp) : Option (AV × Hp) := ob (f e) fun rd => ob (rd.run h) fun v => some (v, h)
def runA (f : AF) (e : Env) (h : Hp) : Option (AV × Hp) := ob (f e) fun m => some (m.val h.next, h.add m.blk)
def CO.run (call : CallF) (c : CO) : Env → Hp → Option (AV × Hp) :=
  @CO.rec (fun _ => Env → Hp → Option (AV × Hp)) runP runR runA (fun f => f call) c

def wantK (t : Nat) (b : Bool) (e : Env) : Bool :=
  @Option.rec AV (fun _ => Bool) false (fun v => @Option.rec Bool (fun _ => Bool) false (fun x => bi b x (!x)) v.bool?) (e.get t)
def wantedA (ops : Array Oper) (g : Option (Nat × Bool)) : Env → Bool :=
  match g with
  | none => fun _ => true
  | some (j, b) =>
    match (ops[j]?).bind (·.dst) with
    | some t => wantK t b
    | none => fun _ => false

def stepO (put : AV → Env → Option Env) (run : Env → Hp → Option (AV × Hp)) (want : Env → Bool) (k : Env → Hp → Option (Env × Hp)) (e : Env) (h : Hp) : Option (Env × Hp) :=
  bi (want e) (ob (run e h) fun p => ob (put p.1 e) fun e' => k e' p.2) (ob (put undef e) fun e' => k e' h)

def runOps (P : Program) (call : CallF) (nt : Nat) (ops : Array Oper) (l : List Oper) : Env → Hp → Option (Env × Hp) :=
  @List.rec Oper (fun _ => Env → Hp → Option (Env × Hp)) (fun e h => some (e, h))
    (fun o _ ih => stepO (putO nt o.dst) ((comp P o.op).run call) (wantedA ops o.guard) ih) l

/-! drawn regions -/
mutual
def AV.beq : AV → AV → Bool
  | .bool a, .bool b => a == b
  | .int k a, .int j b => kEq k j && ieq a b
  | .str a, .str b => a.toList == b.toList
  | .ptr a b, .ptr c d => Nat.beq a c && Nat.beq b d
  | .nilptr, .nilptr => true
  | .slice a b c d s, .slice a' b' c' d' s' => Nat.beq a a' && Nat.beq b b' && Nat.beq c c' && Nat.beq d d' && Nat.beq s s'
  | .nilslice, .nilslice => true
  | .map a, .map b => Nat.beq a b
  | .nilmap, .nilmap => true
  | .func f a b, .func g c d => Nat.beq f g && AV.beqs a c && AV.beqs b d
  | .nilfunc, .nilfunc => true
  | .yfn, .yfn => true
  | .iface t v, .iface u w => Nat.beq t u && AV.beq v w
  | .nili, .nili => true
  | .agg a, .agg b => AV.beqs a b
  | .tup a, .tup b => AV.beqs a b
  | _, _ => false
def AV.beqs : List AV → List AV → Bool
  | [], [] => true
  | x :: l, y :: m => AV.beq x y && AV.beqs l m
  | _, _ => false
end

def bit (i : Nat) : Nat := Nat.pow (nat_lit 2) i
def ancs (ops : List Oper) : List Nat :=
  go ops [] 
  where
  go : List Oper → List Nat → List Nat
    | [], acc => acc.reverse
    | o :: os, acc =>
      go os ((o.after.toList.foldl (fun m e => bi (Region.binds .any e) (Nat.lor (Nat.lor m (bit e.on)) (acc.reverse.getD e.on 0)) m) 0) :: acc)
def subset (a b : Nat) : Bool := Nat.beq (Nat.land a b) a
def hasBit (a i : Nat) : Bool := Nat.beq (Nat.land a (bit i)) (bit i)

/-- One operation's own ancestors, out of the elder ones'. -/
def ancOf (o : Oper) (as : List Nat) : Nat := o.after.toList.foldl (fun m e => bi (Region.binds .any e) (Nat.lor (Nat.lor m (bit e.on)) (as.getD e.on 0)) m) 0
/-- What the proof wants of a region that asks the tape. -/
def drawOk (ops : Array Oper) : Bool :=
  go (ancs ops.toList) 0 ops.toList && Nat.beq (ancs ops.toList).length ops.size
  where
  apartAll (o : Oper) (anc : Nat) : Nat → List Oper → Bool
    | _, [] => true
    | i, x :: l => (hasBit anc i || x.apart ops o) && apartAll o anc (i + 1) l
  go (as : List Nat) : Nat → List Oper → Bool
    | _, [] => true
    | j, o :: l => (o.after.toList.all fun e => !Region.binds .any e || Nat.ble (e.on + 1) j) && Nat.beq (as.getD j 0) (ancOf o as) && apartAll o (as.getD j 0) 0 (ops.toList.take j) && go as (j + 1) l

structure Ann where
  i : Nat
  anc : Nat
  put : AV → Env → Option Env
  co : CO
  want : Env → Bool
def annot (P : Program) (nt : Nat) (ops : Array Oper) : List Ann := go 0 ops.toList (ancs ops.toList)
  where
  go : Nat → List Oper → List Nat → List Ann
    | n, o :: os, a :: as => ⟨n, a, putO nt o.dst, comp P o.op, wantedA ops o.guard⟩ :: go (n + 1) os as
    | _, _, _ => []
structure Live where
  i : Nat
  rd : Rd
  v : AV
structure PS where
  e : Env
  h : Hp
  d : Nat
  lv : List Live
  pend : List Ann

def PS.done (s : PS) (a : Ann) (e : Env) : PS := ⟨e, s.h, Nat.lor s.d (bit a.i), s.lv, s.pend⟩
def PS.wait (s : PS) (a : Ann) : PS := ⟨s.e, s.h, s.d, s.lv, a :: s.pend⟩
def pP (s : PS) (a : Ann) (f : PF) : Option PS := ob (f s.e) fun v => ob (a.put v s.e) fun e => some (s.done a e)
def pR (s : PS) (a : Ann) (f : RF) : Option PS := ob (f s.e) fun rd => ob (rd.run s.h) fun v => ob (a.put v s.e) fun e => some ⟨e, s.h, Nat.lor s.d (bit a.i), ⟨a.i, rd, v⟩ :: s.lv, s.pend⟩
def pA (s : PS) (a : Ann) (f : AF) : Option PS := ob (f s.e) fun m => ob (a.put (m.val s.h.next) s.e) fun e => some ⟨e, s.h.add m.blk, Nat.lor s.d (bit a.i), s.lv, s.pend⟩
def pSkip (s : PS) (a : Ann) : Option PS := ob (a.put undef s.e) fun e => some (s.done a e)
def isW (c : CO) : Bool := @CO.rec (fun _ => Bool) (fun _ => false) (fun _ => false) (fun _ => false) (fun _ => true) c
def pDo (s : PS) (a : Ann) : Option PS := @CO.rec (fun _ => Option PS) (pP s a) (pR s a) (pA s a) (fun _ => some (s.wait a)) a.co
def pOne (a : Ann) (s : PS) : Option PS := bi (subset a.anc s.d) (bi (a.want s.e) (pDo s a) (pSkip s a)) (some (s.wait a))
def pass (l : List Ann) : PS → Option PS :=
  @List.rec Ann (fun _ => PS → Option PS) some (fun a _ ih s => ob (pOne a s) ih) l

def steady (h : Hp) (l : List Live) : Bool :=
  @List.rec Live (fun _ => Bool) true (fun x _ ih => bi (@Option.rec AV (fun _ => Bool) false (fun v => AV.beq v x.v) (x.rd.run h)) ih false) l
def allAfter (i : Nat) (l : List Ann) : Bool := @List.rec Ann (fun _ => Bool) true (fun x _ ih => bi (hasBit x.anc i) ih false) l
def keepLive (anc : Nat) (l : List Live) : List Live := @List.rec Live (fun _ => List Live) [] (fun x _ ih => bi (hasBit anc x.i) ih (x :: ih)) l
def dW (call : CallF) (s : PS) (c : CO) : Option (AV × Hp) := @CO.rec (fun _ => Option (AV × Hp)) (fun _ => none) (fun _ => none) (fun _ => none) (fun f => f call s.e s.h) c
def dWrite (call : CallF) (ih : PS → Option (Env × Hp)) (s : PS) (a : Ann) (rest : List Ann) : Option (Env × Hp) :=
  bi (subset a.anc s.d) (bi (a.want s.e) (bi (allAfter a.i rest)
    (ob (dW call s a.co) fun p => ob (a.put p.1 s.e) fun e => ih ⟨e, p.2, Nat.lor s.d (bit a.i), keepLive a.anc s.lv, rest⟩) none) none) none
def dStep (call : CallF) (ih : PS → Option (Env × Hp)) (s : PS) : Option (Env × Hp) :=
  bi (steady s.h s.lv) (@List.rec Ann (fun _ => Option (Env × Hp)) (some (s.e, s.h)) (fun a rest _ => dWrite call ih s a rest) s.pend.reverse) none
def runDraw (call : CallF) (f : Nat) : PS → Option (Env × Hp) :=
  @Nat.rec (fun _ => PS → Option (Env × Hp)) (fun _ => none) (fun _ ih s => ob (pass s.pend ⟨s.e, s.h, s.d, s.lv, []⟩) (dStep call ih)) f

/-! code -/
inductive Ex where
  | normal
  | exit (id : Nat)
  | ret
structure O3 where
  x : Ex
  e : Env
  h : Hp
abbrev Out := Option O3
def norm (r : Option (Env × Hp)) : Out := ob r fun p => some ⟨.normal, p.1, p.2⟩
def onNormal (r : Out) (k : Env → Hp → Out) : Out := ob r fun o => @Ex.rec (fun _ => Out) (k o.e o.h) (fun id => some ⟨.exit id, o.e, o.h⟩) (some ⟨.ret, o.e, o.h⟩) o.x
def loopN (body : Env → Hp → Out) (n : Nat) : Env → Hp → Out :=
  @Nat.rec (fun _ => Env → Hp → Out) (fun _ _ => none) (fun _ ih e h => onNormal (body e h) ih) n
def condK (c : Operand) (a b : Env → Hp → Out) (e : Env) (h : Hp) : Out := ob (ev c e) fun v => ob v.bool? fun t => bi t (a e h) (b e h)
def blockK (id : Nat) (r : Out) : Out := ob r fun o => @Ex.rec (fun _ => Out) (some o) (fun id' => bi (Nat.beq id' id) (some ⟨.normal, o.e, o.h⟩) (some o)) (some o) o.x
def regionK (P : Program) (call : CallF) (nt : Nat) (ops : Array Oper) (draw : Bool) : Env → Hp → Out :=
  bi draw (fun e h => norm (runDraw call (Nat.succ ops.toList.length) ⟨e, h, (nat_lit 0), [], annot P nt ops⟩)) (fun e h => norm (runOps P call nt ops ops.toList e h))
/-- A range over a function that yields nothing. -/
def rangeK (call : CallF) (g : Operand) : Env → Hp → Out := fun e h => ob (ev g e) fun v => ob v.func? fun f => ob (call f.f (f.first ++ [.yfn] ++ f.cap) h) fun p => some ⟨.normal, e, p.2⟩
def outFail : Env → Hp → Out := fun _ _ => none
def outOk (x : Ex) : Env → Hp → Out := fun e h => some ⟨x, e, h⟩
def evCode (P : Program) (call : CallF) (nt : Nat) (c : Code) : Env → Hp → Out :=
  @Code.rec (fun _ => Env → Hp → Out) (outOk .normal) (fun _ ops draw => regionK P call nt ops draw)
    (fun _ _ ia ib e h => onNormal (ia e h) ib) (fun c _ _ ia ib => condK c ia ib) (fun id _ ib e h => blockK id (ib e h))
    (fun _ ib => loopN ib (nat_lit 1000000)) (fun g _ _ _ _ _ => rangeK call g) (fun id => outOk (.exit id)) (fun _ ib => ib) (fun _ => outOk .normal) (fun _ => outFail) (outOk .ret) (fun _ => outFail) c

def resA (P : Program) (r : ResultVar) : Env → Hp → Option AV :=
  match r with
  | .tmp t => fun e _ => evTmp t e
  | .cell a t => fun e h => ob (aggT P t) fun g => ob (sizeT P t) fun n => ob (evTmp a e) fun v => ob v.ptr? fun p => rdLoad h p.1 p.2 n g
def resAll (P : Program) (l : List ResultVar) : Env → Hp → Option (List AV) :=
  @List.rec ResultVar (fun _ => Env → Hp → Option (List AV)) (fun _ _ => some []) (fun r _ ih e h => ob (resA P r e h) fun v => ob (ih e h) fun vs => some (v :: vs)) l
def args0 (l : List AV) : Nat → Env → Env :=
  @List.rec AV (fun _ => Nat → Env → Env) (fun _ e => e) (fun v _ ih i e => ih (Nat.succ i) (e.set i v)) l
def tupOf (l : List AV) : AV := match l with | [v] => v | l => .tup l
def leave (P : Program) (rs : List ResultVar) (o : O3) : Option (AV × Hp) :=
  @Ex.rec (fun _ => Option (AV × Hp)) (ob (resAll P rs o.e o.h) fun l => some (tupOf l, o.h)) (fun _ => none) (ob (resAll P rs o.e o.h) fun l => some (tupOf l, o.h)) o.x
def enterF (P : Program) (call : CallF) (fn : Func) (args : List AV) (h : Hp) : Option (AV × Hp) :=
  ob fn.body fun c => bi (Nat.ble (len args) fn.ntmps) (ob (evCode P call fn.ntmps c (args0 args (nat_lit 0) .leaf) h) (leave P fn.results.toList)) none
def evCall (P : Program) (K : CallF) (n : Nat) : CallF :=
  @Nat.rec (fun _ => CallF) (fun _ _ _ => none)
    (fun _ ih f args h => @Option.rec (AV × Hp) (fun _ => Option (AV × Hp)) (ob (P.funcs[f]?) fun fn => enterF P ih fn args h) some (K f args h)) n

/-! facts: a call's outcome, written out -/
inductive LB where
  | cells (l : List AV)
  | emap
  | dead
def LB.blk (k : LB) : Blk := @LB.rec (fun _ => Blk) cellsOf .emap .dead k
def mkM (l : List (Nat × LB)) : Tri Blk := @List.rec (Nat × LB) (fun _ => Tri Blk) .leaf (fun p _ ih => ih.set p.1 p.2.blk) l
def mkHp (next : Nat) (l : List (Nat × LB)) : Hp := ⟨next, mkM l⟩
def leC (l : List AV) (c : Cl) : Bool :=
  bi (Nat.beq c.n (len l)) (@Option.rec (List AV) (fun _ => Bool) false (fun m => AV.beqs m l) (readN c.t (len l) (nat_lit 0))) false
def isDead (b : Blk) : Bool := @Blk.rec (fun _ => Bool) (fun _ _ => false) false true b
def leK (b : Blk) (k : LB) : Bool := @LB.rec (fun _ => Bool) (fun l => @Option.rec Cl (fun _ => Bool) false (leC l) b.cells?) b.isMap (isDead b) k
def leL (h : Hp) (l : List (Nat × LB)) : Bool :=
  @List.rec (Nat × LB) (fun _ => Bool) true (fun p _ ih => bi (@Option.rec Blk (fun _ => Bool) false (fun b => leK b p.2) (h.m.get p.1)) ih false) l
structure Fact where
  f : FuncId
  args : List AV
  next : Nat
  hp : List (Nat × LB)
  v : AV
  next' : Nat
  hp' : List (Nat × LB)
def factK (F : Fact) (k : CallF) : CallF := fun f args h =>
  bi (Nat.beq f F.f) (bi (Nat.beq h.next F.next) (bi (AV.beqs args F.args) (bi (leL h F.hp) (some (F.v, mkHp F.next' F.hp')) (k f args h)) (k f args h)) (k f args h)) (k f args h)
def factOk (call : CallF) (F : Fact) : Bool :=
  @Option.rec (AV × Hp) (fun _ => Bool) false (fun r => bi (AV.beq r.1 F.v) (bi (Nat.beq r.2.next F.next') (leL r.2 F.hp') false) false) (call F.f F.args (mkHp F.next F.hp))
def noK : CallF := fun _ _ _ => none

end Go.Ev
