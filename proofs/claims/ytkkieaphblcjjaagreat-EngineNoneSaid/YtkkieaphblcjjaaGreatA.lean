/- The machine: a second machine for the language, of which a run is a plain computation. Without conditions. -/
import GoSem.Step

namespace Go.AM

inductive Tr (α : Type) where
  | leaf
  | node (l : Tr α) (v : Option α) (r : Tr α)

noncomputable def strictN {β : Type} (n : Nat) (k : Nat → β) : β := Nat.rec (k 0) (fun m _ => k (Nat.succ m)) n
/-- the way to place j - 1: here, to the left, to the right -/
inductive Sh where
  | one
  | l (j : Nat)
  | r (j : Nat)
noncomputable def sh (j : Nat) : Sh :=
  Bool.rec (Bool.rec (strictN (Nat.div j 2) Sh.r) (strictN (Nat.div j 2) Sh.l) (Nat.beq (Nat.mod j 2) 0)) Sh.one (Nat.beq j 1)

namespace Tr
variable {α β : Type}
noncomputable def getB (t : Tr α) : Nat → Option α :=
  Tr.rec (fun _ => none) (fun _ v _ ihl ihr j => Sh.rec v ihl ihr (sh j)) t
noncomputable def singleB (f : Nat) : Nat → α → (Tr α → β) → β :=
  Nat.rec (fun _ v k => k (.node .leaf (some v) .leaf)) (fun _ ih j v k =>
    Sh.rec (k (.node .leaf (some v) .leaf)) (fun j => ih j v fun l => k (.node l none .leaf)) (fun j => ih j v fun r => k (.node .leaf none r)) (sh j)) f
noncomputable def setB (t : Tr α) : Nat → α → (Tr α → β) → β :=
  Tr.rec (fun j x k => singleB j j x k) (fun l v r ihl ihr j x k =>
    Sh.rec (k (.node l (some x) r)) (fun j => ihl j x fun l => k (.node l v r)) (fun j => ihr j x fun r => k (.node l v r)) (sh j)) t
noncomputable def get (t : Tr α) (i : Nat) : Option α := t.getB (Nat.succ i)
noncomputable def setK (t : Tr α) (i : Nat) (x : α) (k : Tr α → β) : β := t.setB (Nat.succ i) x k
/-- the elements at even places, and those at odd ones -/
def evens : List α → List α
  | [] => []
  | [x] => [x]
  | x :: _ :: r => x :: evens r
def odds : List α → List α
  | [] => []
  | [_] => []
  | _ :: y :: r => y :: odds r
def build : Nat → List α → Tr α
  | 0, _ => .leaf
  | _ + 1, [] => .leaf
  | f + 1, x :: r => .node (build f (evens r)) (some x) (build f (odds r))
noncomputable def setList (t : Tr α) (i : Nat) (l : List α) (k : Tr α → β) : β :=
  List.rec (motive := fun _ => Tr α → Nat → β) (fun t _ => k t) (fun x _ ih t i => t.setK i x fun t => ih t (Nat.succ i)) l t i
end Tr

noncomputable def strictI {β : Type} (n : Int) (k : Int → β) : β := Int.rec (fun m => strictN m fun m => k (.ofNat m)) (fun m => strictN m fun m => k (.negSucc m)) n
end Go.AM

namespace Go.AM

inductive AVal where
  | bool (b : Bool)
  | int (k : IntKind) (n : Int)
  | str (l : List Nat)
  | nilptr
  | ptr (b off : Nat)
  | nilslice
  | slice (b off len cp es : Nat)
  | nilmap
  | map (b : Nat)
  | nilfunc
  | func (fn : FuncId) (first captured : List AVal)
  | yield (l : Nat)
  | iter (i : Nat)
  | niliface
  | iface (t : TypeId) (v : AVal)
  | agg (l : List AVal)
  | tuple (l : List AVal)
  | mod (k : IntKind) (m r : Nat)   -- an integer of which its rest at m is known alone
  | any                             -- a value of one cell of which nothing is known

/-- a value of one cell -/
def AVal.flat : AVal → Bool
  | .agg _ => false
  | .tuple _ => false
  | .any => false
  | _ => true
def AVal.cells : AVal → List AVal
  | .agg l => l
  | v => [v]

noncomputable def AVal.force {β : Type} (v : AVal) (k : AVal → β) : β :=
  match v with
  | .int kd n => strictI n fun n => k (.int kd n)
  | .bool b => match b with | true => k (.bool true) | false => k (.bool false)
  | .ptr b off => strictN b fun b => strictN off fun off => k (.ptr b off)
  | .slice b off len cp es => strictN b fun b => strictN off fun off => strictN len fun len => strictN cp fun cp => k (.slice b off len cp es)
  | .nilptr => k .nilptr
  | .nilslice => k .nilslice
  | v => k v

def kindBeq (a b : IntKind) : Bool := match a, b with
  | .i8, .i8 | .i16, .i16 | .i32, .i32 | .i64, .i64 | .u8, .u8 | .u16, .u16 | .u32, .u32 | .u64, .u64 => true
  | _, _ => false
def intBeq (a b : Int) : Bool := match a, b with
  | .ofNat m, .ofNat n => Nat.beq m n
  | .negSucc m, .negSucc n => Nat.beq m n
  | _, _ => false
def listBeq {α : Type} (f : α → α → Bool) : List α → List α → Bool
  | [], [] => true
  | a :: x, b :: y => match f a b with | true => listBeq f x y | false => false
  | _, _ => false

/-- equality of values, with fuel for what lies within -/
def beqV : Nat → AVal → AVal → Bool
  | 0, _, _ => false
  | n + 1, a, b => match a, b with
    | .bool a, .bool b => match a, b with | true, true => true | false, false => true | _, _ => false
    | .int k a, .int l b => match kindBeq k l with | true => intBeq a b | false => false
    | .str a, .str b => listBeq Nat.beq a b
    | .nilptr, .nilptr => true
    | .ptr a b, .ptr c d => match Nat.beq a c with | true => Nat.beq b d | false => false
    | .nilslice, .nilslice => true
    | .slice a b c x d, .slice e f g y h => Nat.beq a e && Nat.beq b f && Nat.beq c g && Nat.beq d h && Nat.beq x y
    | .nilmap, .nilmap => true
    | .map a, .map b => Nat.beq a b
    | .nilfunc, .nilfunc => true
    | .func f a b, .func g c d => Nat.beq f g && listBeq (beqV n) a c && listBeq (beqV n) b d
    | .yield a, .yield b => Nat.beq a b
    | .niliface, .niliface => true
    | .iface t v, .iface u w => Nat.beq t u && beqV n v w
    | .agg a, .agg b => listBeq (beqV n) a b
    | .tuple a, .tuple b => listBeq (beqV n) a b
    | _, _ => false

def ofValue : Nat → Value → Option AVal
  | 0, _ => none
  | n + 1, v => match v with
    | .bool b => some (.bool b)
    | .int k n => some (.int k n)
    | .string s => some (.str (s.data.toList.map UInt8.toNat))
    | .pointer none => some .nilptr
    | .slice none 0 0 => some .nilslice
    | .map none => some .nilmap
    | .nilFunc => some .nilfunc
    | .nilIface => some .niliface
    | .iface t v => match ofValue n v with | some a => some (.iface t a) | none => none
    | .agg cs => match cs.toList.mapM (ofValue n) with | some l => some (.agg l) | none => none
    | .tuple cs => match cs.toList.mapM (ofValue n) with | some l => some (.tuple l) | none => none
    | _ => none

inductive ADef where
  | call (fn : FuncId) (args : List AVal)
  | collected (r : Nat)

inductive ABlk where
  | dead
  | row (elem : TypeId) (n : Nat) (t : Tr AVal)
  | map (es : List (AVal × AVal × Nat)) (clock : Nat)
  | loop (st : LoopState) (pending : Option Code) (fn : FuncId) (tmps : Tr AVal) (nt : Nat) (params : List Tmp) (assign body : Code) (defers : Nat)
  | deferred (calls : Option (List ADef))
  | siter (l : List Nat) (pos : Nat)
  | miter (m : Option Nat) (since : Nat) (seen : List Nat) (base : Nat)

inductive AItem where
  | code (c : Code)
  | inBlock (id : Nat)
  | inLoop (c : Code)
  | inScope (c : Code)
  | inReg (ops : Array Oper) (rest : List Oper)
  | inDraw (ops : Array Oper) (before : List Nat) (done : Nat) (rest : List (Nat × Oper)) (pend : Option Nat)
  | inRange (l : Nat)
  | endRange (l : Nat)
  | beginRound

inductive AMode where
  | run | returning

structure AFr where
  fn : FuncId
  tmps : Tr AVal
  nt : Nat                 -- how many slots there are
  todo : List AItem
  defers : List ADef
  mode : AMode
  deferred : Bool          -- was it called as a deferred call?
  roundOf : Option Nat

structure St where
  heap : Tr ABlk
  next : Nat
  log : List (Nat × ABlk)

structure AM where
  cur : AFr
  callers : List AFr
  st : St

structure Memo where
  fn : FuncId
  args : List AVal
  blks : List (Nat × ABlk)
  res : AVal

structure Cfg where
  P : Program
  ty : Tr TypeInfo
  fns : Tr Func
  lo : Nat
  memo : List Memo
  forky : List FuncId
  canon : List (FuncId × List Nat) := []   -- where the ways of a loop over a map are told by what has been seen alone; the slots that its rounds write
  plain : List TypeId     -- struct types that '==' goes through field by field

inductive Out where
  | val (v : AVal) (s : St)
  | enter (f : FuncId) (args : List AVal) (s : St)
  | round (l : Nat) (f : FuncId) (tmps : Tr AVal) (nt : Nat) (assign body : Code) (s : St)
  | defer (d : ADef) (s : St)
  | many (l : List (AVal × St))

section
variable (C : Cfg)

noncomputable def St.put (s : St) (b : Nat) (x : ABlk) {β : Type} (k : St → β) : β :=
  s.heap.setK b x fun h => k { s with heap := h, log := (b, x) :: s.log }

noncomputable def under (t : TypeId) : Option TypeDesc :=
  match C.ty.get t with
  | some i => match i.desc with
    | .named _ u => match C.ty.get u with | some j => some j.desc | none => none
    | d => some d
  | none => none
noncomputable def sizeOf (t : TypeId) : Option Nat := match C.ty.get t with | some i => some i.size | none => none
noncomputable def isAgg (t : TypeId) : Option Bool := match under C t with
  | some (.struct _) => some true
  | some (.array _ _) => some true
  | some _ => some false
  | none => none
noncomputable def zero (t : TypeId) : Option AVal := match C.ty.get t with
  | some i => match i.zero with | some v => ofValue 3 v | none => none
  | none => none
noncomputable def eval (tm : Tr AVal) (x : Operand) : Option AVal :=
  match x with
  | .tmp t => match tm.get t with | some v => some v | none => some (.tuple [])
  | .const v => ofValue 4 v
  | .func f => some (.func f [] [])
  | .global _ => none
noncomputable def evals (tm : Tr AVal) (l : List Operand) : Option (List AVal) :=
  match l with
  | [] => some []
  | x :: r => match eval tm x with
    | some v => match evals tm r with | some vs => some (v :: vs) | none => none
    | none => none

noncomputable def getRow (s : St) (b : Nat) {β : Type} (d : β) (k : TypeId → Nat → Tr AVal → β) : β :=
  match s.heap.get b with
  | some (.row e n t) => k e n t
  | _ => d
noncomputable def cellsAt (t : Tr AVal) (off : Nat) (k : Nat) : Option (List AVal) :=
  match k with
  | 0 => some []
  | k + 1 => match t.get off with
    | some v => match cellsAt t (Nat.succ off) k with | some l => some (v :: l) | none => none
    | none => none
noncomputable def loadCells (s : St) (b off k : Nat) : Option (List AVal) :=
  match k with
  | 0 => some []
  | k + 1 => getRow s b none fun _ n t => match Nat.ble (off + (k + 1)) n with | true => cellsAt t off (k + 1) | false => none
noncomputable def loadVar (s : St) (t : TypeId) (b off : Nat) : Option AVal :=
  match isAgg C t, sizeOf C t with
  | some true, some n => match loadCells s b off n with | some l => some (.agg l) | none => none
  | some false, some _ => match loadCells s b off 1 with | some (v :: _) => some v | _ => none
  | _, _ => none
noncomputable def storeCells (s : St) (b off : Nat) (vs : List AVal) {β : Type} (d : β) (k : St → β) : β :=
  match vs with
  | [] => k s
  | _ :: _ => match Nat.ble C.lo b with
    | false => d
    | true => getRow s b d fun e n t => match Nat.ble (off + vs.length) n && vs.all AVal.flat with
      | true => t.setList off vs fun t => s.put b (.row e n t) k
      | false => d

/-- a new block: its number must be free -/
noncomputable def newBlk (s : St) (x : ABlk) {β : Type} (d : β) (k : Nat → St → β) : β :=
  match s.heap.get s.next, Nat.ble C.lo s.next with
  | none, true => strictN s.next fun b => strictN (Nat.succ b) fun n => s.put b x fun s => k b { s with next := n }
  | _, _ => d
noncomputable def newRow (s : St) (e : TypeId) (vs : List AVal) {β : Type} (d : β) (k : Nat → St → β) : β :=
  Tr.leaf.setList 0 vs fun t => strictN vs.length fun n => newBlk C s (.row e n t) d k

def repeatL (l : List AVal) : Nat → List AVal
  | 0 => []
  | n + 1 => l ++ repeatL l n

def asInt : AVal → Option Int
  | .int _ n => some n
  | _ => none

noncomputable def part (t : TypeId) (l : List AVal) (off : Nat) : Option AVal :=
  match isAgg C t, sizeOf C t with
  | some true, some n => some (.agg ((l.drop off).take n))
  | some false, some _ => l[off]?
  | _, _ => none

/-- '==' at a type -/
noncomputable def equalIn : Nat → TypeId → AVal → AVal → Option Bool
  | 0, _, _, _ => none
  | d + 1, t, x, y => match under C t, x, y with
    | some .bool, .bool a, .bool b => some (a == b)
    | some (.int _), .int k a, .int l b => match kindBeq k l with | true => some (intBeq a b) | false => none
    | some .string, .str a, .str b => some (listBeq Nat.beq a b)
    | some (.pointer _), .nilptr, .nilptr => some true
    | some (.pointer _), .nilptr, .ptr _ _ => some false
    | some (.pointer _), .ptr _ _, .nilptr => some false
    | some (.interface _), .niliface, .niliface => some true
    | some (.interface _), .niliface, .iface _ _ => some false
    | some (.interface _), .iface _ _, .niliface => some false
    | some (.struct fs), .agg xs, .agg ys => match C.plain.any (Nat.beq t) with
      | true => fs.toList.foldr (fun f r => match f.name == "_" with
        | true => r
        | false => match part C f.type xs f.offset, part C f.type ys f.offset with
          | some a, some b => match equalIn d f.type a b with
            | some true => r
            | some false => some false
            | none => none
          | _, _ => none) (some true)
      | false => none
    | some (.slice _), .nilslice, .nilslice => some true
    | some (.slice _), .nilslice, .slice _ _ _ _ _ => some false
    | some (.slice _), .slice _ _ _ _ _, .nilslice => some false
    | some (.map _ _), .nilmap, .nilmap => some true
    | some (.map _ _), .nilmap, .map _ => some false
    | some (.map _ _), .map _, .nilmap => some false
    | some (.func _ _ _), .nilfunc, .nilfunc => some true
    | some (.func _ _ _), .nilfunc, .func _ _ _ => some false
    | some (.func _ _ _), .func _ _ _, .nilfunc => some false
    | _, _, _ => none

def arith (op : BinOp) (k : IntKind) (a b : Int) : Option AVal :=
  match op with
  | .add => some (.int k (k.wrap (a + b)))
  | .sub => some (.int k (k.wrap (a - b)))
  | .mul => some (.int k (k.wrap (a * b)))
  | .quo => match intBeq b 0 with | true => none | false => some (.int k (k.wrap (a.tdiv b)))
  | .rem => match intBeq b 0 with | true => none | false => some (.int k (a.tmod b))
  | .eql => some (.bool (intBeq a b))
  | .neq => some (.bool (!(intBeq a b)))
  | .lss => some (.bool (decide (a < b)))
  | .leq => some (.bool (decide (a ≤ b)))
  | .gtr => some (.bool (decide (b < a)))
  | .geq => some (.bool (decide (b ≤ a)))
  | _ => none

/-- is the one text ahead of the other? -/
def ltStr : List Nat → List Nat → Bool
  | _, [] => false
  | [], _ :: _ => true
  | a :: x, b :: y => Nat.blt a b || (Nat.beq a b && ltStr x y)
noncomputable def binop (op : BinOp) (t : TypeId) (x y : AVal) : Option AVal :=
  match x, y with
  | .int k a, .int l b =>
    match kindBeq k l with | true => arith op k a b | false => none
  | .str a, .str b => match op with
    | .eql => some (.bool (listBeq Nat.beq a b))
    | .neq => some (.bool (!(listBeq Nat.beq a b)))
    | .add => match Nat.ble (a.length + b.length) 1000000 with | true => some (.str (a ++ b)) | false => none
    | .lss => some (.bool (ltStr a b))
    | .leq => some (.bool (ltStr a b || listBeq Nat.beq a b))
    | .gtr => some (.bool (!(ltStr a b || listBeq Nat.beq a b)))
    | .geq => some (.bool (!(ltStr a b)))
    | _ => none
  | .mod k m r, .int l b => match op with
    | .rem => match kindBeq k l && (intBeq b (.ofNat m) && Nat.blt 0 m) with | true => some (.int k (.ofNat r)) | false => none
    | _ => none
  | x, y => match op with
    | .eql => match equalIn C 4 t x y with | some b => some (.bool b) | none => none
    | .neq => match equalIn C 4 t x y with | some b => some (.bool (!b)) | none => none
    | _ => none

def fillOne (cells : List AVal) (off : Nat) (vs : List AVal) : List AVal := cells.take off ++ vs ++ cells.drop (off + vs.length)

noncomputable def lenOf (s : St) (v : AVal) : Option Nat :=
  match v with
  | .str l => some l.length
  | .nilslice => some 0
  | .slice _ _ n _ _ => some n
  | .nilmap => some 0
  | .map b => match s.heap.get b with | some (.map es _) => some es.length | _ => none
  | _ => none
/-- may a type's values be keys, without more ado? -/
noncomputable def keyOk1 (t : TypeId) : Bool := match under C t with
  | some .string => true
  | some .bool => true
  | some (.int _) => true
  | _ => false
noncomputable def keyOk (t : TypeId) (k : AVal) : Bool := match under C t, k with
  | some .string, .str _ => true
  | some .bool, .bool _ => true
  | some (.int _), .int _ _ => true
  | some (.struct fs), .agg l => fs.toList.all fun f => !(f.name == "_") && keyOk1 C f.type && (match part C f.type l f.offset with | some _ => true | none => false)
  | _, _ => false
/-- the first entry of a key: its place, and itself -/
noncomputable def mapFind (kt : TypeId) (k : AVal) (i : Nat) : List (AVal × AVal × Nat) → Option (Option (Nat × AVal × AVal × Nat))
  | [] => some none
  | e :: r => match equalIn C 3 kt k e.1 with
    | some true => some (some (i, e))
    | some false => mapFind kt k (Nat.succ i) r
    | none => none
/-- a key without addresses -/
def plainV : Nat → AVal → Bool
  | 0, _ => false
  | n + 1, v => match v with
    | .bool _ => true
    | .int _ _ => true
    | .str _ => true
    | .agg l => l.all (plainV n)
    | _ => false

def bool3 (b : Bool) : AVal := .bool b

/-! the operations, each by itself -/
abbrev Res := Option Out
noncomputable def val (v : Option AVal) (s : St) : Res := match v with | some v => some (.val v s) | none => none

noncomputable def bytesOk (e : TypeId) (c : Nat) : Bool := match C.ty.get e with
  | some i => Nat.ble (i.bytes * c) 16777216 && Nat.ble (c * i.size) 16777216 && Nat.ble c 16777216
  | none => false
/-- is the zero value of a type of its size? -/
noncomputable def zeroOk (e : TypeId) (size : Nat) : Bool := match zero C e with
  | some z => Nat.beq z.cells.length size
  | none => false
/-- n elements more, of the cells vs -/
noncomputable def appendVs (e size : Nat) (s : St) (x : AVal) (n : Nat) (vs : List AVal) : Res :=
  match x with
  | .nilslice => match bytesOk C e n && zeroOk C e size with
    | true => newRow C s e vs none fun b s => some (.val (.slice b 0 n n size) s)
    | false => none
  | .slice b off len cp es => match Nat.beq es size && Nat.ble C.lo b && bytesOk C e (len + n) && zeroOk C e size with
    | false => none
    | true => match Nat.ble (len + n) cp with
      | true => storeCells C s b (off + len * size) vs none fun s => some (.val (.slice b off (len + n) cp es) s)
      | false => getRow s b none fun e' k t => match Nat.beq e' e && Nat.ble (off + len * size) k with
        | false => none
        | true => match Nat.beq off 0 && Nat.beq k (len * size) with
          | true => s.put b .dead fun s => t.setList k vs fun t => strictN (k + vs.length) fun k' =>
              newBlk C s (.row e k' t) none fun b' s => some (.val (.slice b' 0 (len + n) (len + n) es) s)
          | false => match cellsAt t off (len * size) with
            | some old => s.put b .dead fun s => newRow C s e (old ++ vs) none fun b' s => some (.val (.slice b' 0 (len + n) (len + n) es) s)
            | none => none
  | _ => none
noncomputable def opAppend (t0 t1 : TypeId) (s : St) (x y : AVal) : Res :=
  match under C t0, under C t1 with
    | some (.slice e), some (.slice _) => match sizeOf C e, lenOf s y with
      | some size, some n => match Nat.beq n 0 with
        | true => match x, y with
          | .nilslice, .nilslice => some (.val x s)
          | .nilslice, .slice _ _ _ _ _ => some (.val x s)
          | .slice _ _ _ _ _, .nilslice => some (.val x s)
          | .slice _ _ _ _ _, .slice _ _ _ _ _ => some (.val x s)
          | _, _ => none
        | false => match y with
          | .slice b off _ _ _ => match loadCells s b off (n * size) with
            | some vs => match vs.all AVal.flat with
              | true => appendVs C e size s x n vs
              | false => none
            | none => none
          | _ => none
      | _, _ => none
    | some (.slice e), some (.int _) => match sizeOf C e, y, x with
      | some size, .int _ (.ofNat n), .nilslice => match Nat.beq n 0 with
        | true => some (.val .nilslice s)
        | false => match zero C e with
          | some z => match bytesOk C e n && zeroOk C e size && Nat.blt 0 size with
            | true => newRow C s e (repeatL z.cells n) none fun b s => some (.val (.slice b 0 n n size) s)
            | false => none
          | none => none
      | _, _, _ => none
    | _, _ => none

noncomputable def opClear (t0 : TypeId) (s : St) (x : AVal) : Res :=
  match x with
  | .slice b off n _ _es => match under C t0 with
    | some (.slice e) => match zero C e with
      | some z => match Nat.blt 0 z.cells.length with
        | true => storeCells C s b off (repeatL z.cells n) none fun s => some (.val (.tuple []) s)
        | false => none
      | none => none
    | _ => none
  | _ => none

noncomputable def opLen (at0 : Option TypeId) (s : St) (x : AVal) : Res :=
  match at0 with
  | some t0 => match under C t0 with
    | some .string => match x with | .str l => some (.val (.int .i64 (.ofNat l.length)) s) | _ => none
    | some (.array n _) => some (.val (.int .i64 (.ofNat n)) s)
    | some (.slice _) => match x with
      | .nilslice => some (.val (.int .i64 (.ofNat 0)) s)
      | .slice _ _ n _ _ => some (.val (.int .i64 (.ofNat n)) s)
      | _ => none
    | some (.map _ _) => match x with
      | .nilmap => some (.val (.int .i64 (.ofNat 0)) s)
      | .map b => match s.heap.get b with
        | some (.map es _) => some (.val (.int .i64 (.ofNat es.length)) s)
        | _ => none
      | _ => none
    | _ => none
  | none => none

def opMin (x y : AVal) (mx : Bool) : Option AVal :=
  match x, y with
  | .int k a, .int _ b => some (.int k (match mx with | true => (match decide (b > a) with | true => b | false => a) | false => (match decide (b < a) with | true => b | false => a)))
  | _, _ => none

def onlyVal (r : Res) : Res := match r with | some (.val v s) => some (.val v s) | _ => none
def opRecover (fr : AFr) (callers : List AFr) (s : St) : Res :=
  match fr.roundOf, fr.deferred, callers with
  | none, true, c :: _ => match c.mode with | .returning => some (.val .niliface s) | .run => none
  | _, _, _ => none

noncomputable def opBuiltin (b : Builtin) (ats : Array TypeId) (args : List AVal) (fr : AFr) (callers : List AFr) (s : St) : Res :=
  match b, args with
  | .len, [x] => opLen C ats[0]? s x
  | .append, [x, y] => match ats.toList with | [t0, t1] => opAppend C t0 t1 s x y | _ => none
  | .clear, [x] => match ats.toList with | [t0] => opClear C t0 s x | _ => none
  | .cap, [.nilslice] => match ats.toList with | [t] => (match under C t with | some (.slice _) => some (.val (.int .i64 0) s) | _ => none) | _ => none
  | .min, [x, y] => val (opMin x y false) s
  | .max, [x, y] => val (opMin x y true) s
  | .recover, [] => opRecover fr callers s
  | _, _ => none

noncomputable def callFn (f : FuncId) (args : List AVal) (s : St) : Res :=
  match C.fns.get f with
  | some fn => match fn.body with | some _ => some (.enter f args s) | none => none
  | none => none

noncomputable def opCall (c : Call) (tm : Tr AVal) (fr : AFr) (callers : List AFr) (s : St) : Res :=
  match evals tm c.args.toList with
  | some args => match c.callee with
    | .builtin b => onlyVal (opBuiltin C b c.argTypes args fr callers s)
    | .value f => match eval tm f with
      | some (.func f first captured) => callFn C f (first ++ (args ++ captured)) s
      | some (.yield l) => match s.heap.get l with
        | some (.loop _ _ fn tm nt ps a b _) => match Nat.beq args.length ps.length && ps.all (fun d => Nat.blt d nt) with
          | true => some (.round l fn ((ps.zip args).foldl (fun t x => t.setK x.1 x.2 id) tm) nt a b s)
          | false => none
        | _ => none
      | _ => none
    | .invoke _ _ => none
  | none => none

noncomputable def opDefer (c : Call) (tm : Tr AVal) (s : St) : Res :=
  match evals tm c.args.toList, c.callee with
  | some args, .value f => match eval tm f with
    | some (.func f first captured) => some (.defer (.call f (first ++ args ++ captured)) s)
    | _ => none
  | _, _ => none

noncomputable def fills (place : Nat → Option (Nat × Nat)) (tm : Tr AVal) (cells : List AVal) : List (Nat × Operand) → Option (List AVal)
  | [] => some cells
  | (i, x) :: r => match place i, eval tm x with
    | some (off, size), some v => match Nat.beq v.cells.length size && Nat.ble (off + size) cells.length with
      | true => fills place tm (fillOne cells off v.cells) r
      | false => none
    | _, _ => none

noncomputable def placesOf : List Field → Option (List (Nat × Nat))
  | [] => some []
  | f :: r => match sizeOf C f.type, placesOf r with
    | some n, some l => some ((f.offset, n) :: l)
    | _, _ => none
noncomputable def opBuild (t : TypeId) (parts : Array (Nat × Operand)) (tm : Tr AVal) (s : St) : Res :=
  match zero C t, under C t with
  | some z, some (.struct fs) => match placesOf C fs.toList with
    | some pl => match fills (fun i => pl[i]?) tm z.cells parts.toList with
      | some l => some (.val (.agg l) s)
      | none => none
    | none => none
  | some z, some (.array _ e) => match sizeOf C e with
    | some n => match fills (fun i => some (i * n, n)) tm z.cells parts.toList with
      | some l => some (.val (.agg l) s)
      | none => none
    | none => none
  | _, _ => none

noncomputable def opBuildSlice (t : TypeId) (len : Nat) (parts : Array (Nat × Operand)) (tm : Tr AVal) (s : St) : Res :=
  match under C t with
  | some (.slice e) => match sizeOf C e, zero C e with
   | some n, some z => match Nat.ble (len * n) 100000 && Nat.beq z.cells.length n with
    | false => none
    | true => match fills (fun i => some (i * n, n)) tm (repeatL z.cells len) parts.toList with
      | some l => newRow C s e l none fun b s => some (.val (.slice b 0 len len n) s)
      | none => none
   | _, _ => none
  | _ => none

noncomputable def opLoad (t : TypeId) (a : Option AVal) (s : St) : Res :=
  match a with
  | some (.ptr b off) => val (loadVar C s t b off) s
  | _ => none
noncomputable def opStore (t : TypeId) (a x : Option AVal) (s : St) : Res :=
  match a, x, sizeOf C t with
  | some (.ptr b off), some x, some n => match Nat.beq x.cells.length n with
    | true => storeCells C s b off x.cells none fun s => some (.val (.tuple []) s)
    | false => none
  | _, _, _ => none
def opNil (x : Option AVal) (s : St) : Res :=
  match x with
  | some (.ptr b off) => some (.val (.ptr b off) s)
  | some (.func f a b) => some (.val (.func f a b) s)
  | some (.yield l) => some (.val (.yield l) s)
  | _ => none
noncomputable def opConvert (src dst : TypeId) (x : Option AVal) (s : St) : Res :=
  match under C src, under C dst, x with
  | some _, some (.int k), some (.int _ n) => some (.val (.int k (k.wrap n)) s)
  | _, _, _ => none
noncomputable def bnd (x : Option AVal) (d y : Nat) : Option Nat :=
  match x with
  | none => some d
  | some (.int _ (.ofNat i)) => match Nat.ble i y with | true => some i | false => none
  | _ => none
noncomputable def opt (tm : Tr AVal) (x : Option Operand) {β : Type} (d : β) (k : Option AVal → β) : β :=
  match x with
  | none => k none
  | some x => match eval tm x with | some v => k (some v) | none => d
noncomputable def opSlice (t : TypeId) (x : Option AVal) (lo hi mx : Option Operand) (tm : Tr AVal) (s : St) : Res :=
  opt tm lo none fun lo => opt tm hi none fun hi => opt tm mx none fun mx =>
  match mx, hi with
  | some _, none => none
  | _, _ => match under C t, x with
  | some .string, some (.str l) => match mx with
    | some _ => none
    | none => match bnd hi l.length l.length with
      | some h => match bnd lo 0 h with
        | some a => some (.val (.str ((l.drop a).take (h - a))) s)
        | none => none
      | none => none
  | some (.slice e), some .nilslice => match (match sizeOf C e with | some _ => bnd mx 0 0 | none => none) with
    | some _ => match bnd hi 0 0 with
      | some h => match bnd lo 0 h with | some _ => some (.val .nilslice s) | none => none
      | none => none
    | none => none
  | some (.slice e), some (.slice b off n cp es) => match (match sizeOf C e with | some z => (match Nat.beq z es with | true => bnd mx cp cp | false => none) | none => none) with
    | some m => match bnd hi n m with
      | some h => match bnd lo 0 h with
        | some a => some (.val (.slice b (off + a * es) (h - a) (m - a) es) s)
        | none => none
      | none => none
    | none => none
  | _, _ => none
noncomputable def opFieldAddr (t : TypeId) (x : Option AVal) (i : Nat) (s : St) : Res :=
  match under C t, x with
  | some (.struct fs), some (.ptr b off) => match fs[i]? with
    | some f => match sizeOf C f.type with
      | some (_ + 1) => some (.val (.ptr b (off + f.offset)) s)
      | _ => none
    | none => none
  | _, _ => none
noncomputable def opIndexAddr (t : TypeId) (x i : Option AVal) (s : St) : Res :=
  match under C t, x, i with
  | some (.array n e), some (.ptr b off), some (.int _ (.ofNat i)) => match Nat.blt i n, sizeOf C e with
    | true, some z => some (.val (.ptr b (off + i * z)) s)
    | _, _ => none
  | some (.slice e), some (.slice b off n _ _), some (.int _ (.ofNat i)) => match Nat.blt i n, sizeOf C e with
    | true, some z => some (.val (.ptr b (off + i * z)) s)
    | _, _ => none
  | _, _, _ => none
noncomputable def opIndex (t : TypeId) (x i : Option AVal) (s : St) : Res :=
  match under C t, x, i with
  | some (.array n e), some (.agg l), some (.int _ (.ofNat i)) => match Nat.blt i n, sizeOf C e with
    | true, some z => val (part C e l (i * z)) s
    | _, _ => none
  | some .string, some (.str l), some (.int _ (.ofNat i)) => match l[i]? with
    | some c => some (.val (.int .u8 (.ofNat c)) s)
    | none => none
  | _, _, _ => none
def lkp (ok : Bool) (v : AVal) (b : Bool) : AVal := match ok with | true => .tuple [v, .bool b] | false => v
noncomputable def opLookup (t : TypeId) (x k : Option AVal) (ok : Bool) (s : St) : Res :=
  match under C t, x, k with
  | some (.map kt et), some x, some k => match keyOk C kt k with
   | false => none
   | true =>
    let r : Option (Option (Nat × AVal × AVal × Nat)) := match x with
      | .nilmap => some none
      | .map b => match s.heap.get b with
        | some (.map es _) => mapFind C kt k 0 es
        | _ => none
      | _ => none
    match r with
    | some (some (_, _, v, _)) => some (.val (lkp ok v true) s)
    | some none => match zero C et with
      | some v => some (.val (lkp ok v false) s)
      | none => none
    | none => none
  | _, _, _ => none
noncomputable def opMapUpdate (t : TypeId) (m k x : Option AVal) (s : St) : Res :=
  match under C t, m, k, x with
  | some (.map kt _), some (.map b), some k, some x => match s.heap.get b, Nat.ble C.lo b && keyOk C kt k with
    | some (.map es clock), true => match mapFind C kt k 0 es with
      | some (some (i, e)) => match beqV 3 k e.1 && plainV 3 k with
        | true => s.put b (.map (es.set i (k, x, e.2.2)) clock) fun s => some (.val (.tuple []) s)
        | false => none
      | some none => s.put b (.map (es ++ [(k, x, clock)]) (clock + 1)) fun s => some (.val (.tuple []) s)
      | none => none
    | _, _ => none
  | _, _, _, _ => none
noncomputable def opMapEntry (t : TypeId) (m k : Option AVal) (s : St) : Res :=
  match under C t, m, k with
  | some (.map kt et), some (.map b), some k => match s.heap.get b, Nat.ble C.lo b && keyOk C kt k with
    | some (.map es clock), true => match mapFind C kt k 0 es with
      | some (some (i, e)) => match beqV 3 k e.1 && plainV 3 k with
        | true => s.put b (.map (es.set i (k, e.2.1, e.2.2)) clock) fun s => some (.val (.tuple [e.2.1, .int .i64 (.ofNat e.2.2)]) s)
        | false => none
      | some none => match zero C et with
        | some z => s.put b (.map (es ++ [(k, z, clock)]) (clock + 1)) fun s => some (.val (.tuple [z, .int .i64 (.ofNat clock)]) s)
        | none => none
      | none => none
    | _, _ => none
  | _, _, _ => none
def bornAt (born : Nat) (i : Nat) : List (AVal × AVal × Nat) → Option (Nat × AVal × AVal × Nat)
  | [] => none
  | e :: r => match Nat.beq e.2.2 born with
    | true => some (i, e)
    | false => bornAt born (Nat.succ i) r
noncomputable def opEntryStore (m st x : Option AVal) (s : St) : Res :=
  match m, st, x with
  | some (.map b), some (.int _ (.ofNat born)), some x => match s.heap.get b, Nat.ble C.lo b with
    | some (.map es clock), true => match bornAt born 0 es with
      | some (i, e) => s.put b (.map (es.set i (e.1, x, e.2.2)) clock) fun s => some (.val (.tuple []) s)
      | none => none
    | _, _ => none
  | _, _, _ => none
noncomputable def opRange (t : TypeId) (x : Option AVal) (s : St) : Res :=
  match under C t, x with
  | some .string, some (.str l) => newBlk C s (.siter l 0) none fun b s => some (.val (.iter b) s)
  | some (.map _ _), some .nilmap => newBlk C s (.miter none 0 [] 0) none fun b s => some (.val (.iter b) s)
  | some (.map _ _), some (.map m) => match s.heap.get m with
    | some (.map _ clock) => newBlk C s (.miter (some m) clock [] s.next) none fun b s => some (.val (.iter b) s)
    | _ => none
  | _, _ => none
/-- the entries that are still to come, each with its place -/
def leftOf (seen : List Nat) : Nat → List (AVal × AVal × Nat) → List (Nat × AVal × AVal × Nat)
  | _, [] => []
  | j, e :: r => match seen.any (Nat.beq e.2.2) with
    | true => leftOf seen (Nat.succ j) r
    | false => (j, e) :: leftOf seen (Nat.succ j) r
/-- where the numbers of new blocks begin in the round of entry j: a matter of j alone, if there are several -/
def place (es : List (AVal × AVal × Nat)) (base next j : Nat) : Nat :=
  match es with
  | _ :: _ :: _ => base + 1024 * (j + 1)
  | _ => next
/-- the round of one entry begins -/
noncomputable def nextOne (s : St) (i m since : Nat) (seen : List Nat) (base : Nat) (es : List (AVal × AVal × Nat)) (e : Nat × AVal × AVal × Nat) {β : Type} (k : AVal × St → β) : β :=
  strictN (place es base s.next e.1) fun nx => s.put i (.miter (some m) since (seen ++ [e.2.2.2]) base) fun s => k (.tuple [.bool true, e.2.1, e.2.2.1], { s with next := nx })
noncomputable def opNext (it : Option AVal) (isString : Bool) (s : St) : Res :=
  match it with
  | some (.iter i) => match Nat.ble C.lo i with
    | false => none
    | true => match s.heap.get i, isString with
      | some (.siter l pos), true => match l[pos]? with
        | some c => match Nat.blt c 128 with
          | true => s.put i (.siter l (Nat.succ pos)) fun s => some (.val (.tuple [.bool true, .int .i64 (.ofNat pos), .int .i32 (.ofNat c)]) s)
          | false => none
        | none => some (.val (.tuple [.bool false]) s)
      | some (.miter none _ _ _), false => some (.val (.tuple [.bool false]) s)
      | some (.miter (some m) since seen base), false => match s.heap.get m with
        | some (.map es clock) => match Nat.beq clock since && es.all (fun e => Nat.blt e.2.2 since) with
          | true => match leftOf seen 0 es with
            | [] => strictN (place es base s.next es.length) fun n => some (.val (.tuple [.bool false]) { s with next := n })
            | [e] => nextOne s i m since seen base es e fun p => some (.val p.1 p.2)
            | l => some (.many (l.map fun e => nextOne s i m since seen base es e id))
          | false => none
        | _ => none
      | _, _ => none
  | _ => none
noncomputable def opEntry (it : Option AVal) (s : St) : Res :=
  match it with
  | some (.iter i) => match s.heap.get i with
    | some (.miter (some m) since seen _) => match s.heap.get m, seen.getLast? with
      | some (.map es clock), some n => match Nat.beq clock since && Nat.blt n since, es.find? fun e => Nat.beq e.2.2 n with
        | true, some (k, x, _) => some (.val (.tuple [k, x]) s)
        | _, _ => none
      | _, _ => none
    | _ => none
  | _ => none
def opExtract (x : Option AVal) (i : Nat) (s : St) : Res :=
  match x with
  | some (.tuple l) => match l[i]? with | some v => some (.val v s) | none => none
  | _ => none
noncomputable def opMakeSlice (t : TypeId) (l c : Option AVal) (s : St) : Res :=
  match under C t, l, c with
  | some (.slice e), some (.int _ (.ofNat l)), some (.int _ (.ofNat c)) => match sizeOf C e, zero C e with
    | some z, some zv => match Nat.ble l c && Nat.ble c 100000 && Nat.beq zv.cells.length z && bytesOk C e c with
      | true => newRow C s e (repeatL zv.cells c) none fun b s => some (.val (.slice b 0 l c z) s)
      | false => none
    | _, _ => none
  | _, _, _ => none
noncomputable def opUn (op : UnOp) (x : Option AVal) (s : St) : Res :=
  match op, x with
  | .not, some (.bool b) => some (.val (.bool (!b)) s)
  | .neg, some (.int k n) => some (.val (.int k (k.wrap (0 - n))) s)
  | _, _ => none
def opPick (c a b : Option AVal) (s : St) : Res :=
  match c with
  | some (.bool true) => (match a with | some v => some (.val v s) | none => none)
  | some (.bool false) => (match b with | some v => some (.val v s) | none => none)
  | _ => none
noncomputable def opAlloc (e : TypeId) (s : St) : Res :=
  match zero C e with
  | some z => newRow C s e z.cells none fun b s => some (.val (.ptr b 0) s)
  | none => none
noncomputable def opBox (e : TypeId) (x : Option AVal) (s : St) : Res :=
  match x with
  | some z => newRow C s e z.cells none fun b s => some (.val (.ptr b 0) s)
  | none => none
noncomputable def opMakeFunc (fn : Fn) (a b : Array Operand) (tm : Tr AVal) (s : St) : Res :=
  match fn, evals tm a.toList, evals tm b.toList with
  | .func f, some a, some b => some (.val (.func f a b) s)
  | _, _, _ => none
noncomputable def opMakeMap (r : Option Operand) (s : St) : Res :=
  match r with
  | none => newBlk C s (.map [] 0) none fun b s => some (.val (.map b) s)
  | some _ => none
def isConst : Operand → Bool
  | .const _ => true
  | _ => false
/-- two nil interface values are held against each other where one is the literal alone -/
def nilsOk (a b : Operand) (x y : AVal) : Bool :=
  match x, y with
  | .niliface, .niliface => isConst a || isConst b
  | _, _ => true
noncomputable def opBin (op : BinOp) (t : TypeId) (a b : Operand) (x y : Option AVal) (s : St) : Res :=
  match x, y with
  | some x, some y => match nilsOk a b x y with
    | true => val (binop C op t x y) s
    | false => none
  | _, _ => none

noncomputable def aop1 (o : Op) (tm : Tr AVal) (s : St) : Res :=
  match o with
  | .move x => val (eval tm x) s
  | .assign x => val (eval tm x) s
  | .pick c a b => opPick (eval tm c) (eval tm a) (eval tm b) s
  | .alloc e => opAlloc C e s
  | .box e x => opBox C e (eval tm x) s
  | .build t ps => opBuild C t ps tm s
  | .buildSlice t n ps => opBuildSlice C t n ps tm s
  | .load t a => opLoad C t (eval tm a) s
  | .store t a x => opStore C t (eval tm a) (eval tm x) s
  | .nilCheck x => opNil (eval tm x) s
  | .binOp op t x y _ => opBin C op t x y (eval tm x) (eval tm y) s
  | .unOp op _ x => opUn op (eval tm x) s
  | .convert a b x => opConvert C a b (eval tm x) s
  | .makeFunc fn a b => opMakeFunc fn a b tm s
  | .makeMap _ r => opMakeMap C r s
  | .makeSlice t l c => opMakeSlice C t (eval tm l) (eval tm c) s
  | .slice t x lo hi mx => opSlice C t (eval tm x) lo hi mx tm s
  | .fieldAddr t x f => opFieldAddr C t (eval tm x) f s
  | .indexAddr t x i => opIndexAddr C t (eval tm x) (eval tm i) s
  | .index t x i => opIndex C t (eval tm x) (eval tm i) s
  | .lookup t x k ok => opLookup C t (eval tm x) (eval tm k) ok s
  | .mapUpdate t m k x => opMapUpdate C t (eval tm m) (eval tm k) (eval tm x) s
  | .insert t m k x => opMapUpdate C t (eval tm m) (eval tm k) (eval tm x) s
  | .mapEntry t m k => opMapEntry C t (eval tm m) (eval tm k) s
  | .entryStore _ m st x => opEntryStore C (eval tm m) (eval tm st) (eval tm x) s
  | .range t x => opRange C t (eval tm x) s
  | .entry it => opEntry (eval tm it) s
  | .extract t i => opExtract (eval tm t) i s
  | _ => none
noncomputable def aop (o : Op) (tm : Tr AVal) (fr : AFr) (callers : List AFr) (s : St) : Res :=
  match o with
  | .call c => opCall C c tm fr callers s
  | .defer c => opDefer c tm s
  | .next it b => opNext C (eval tm it) b s
  | o => onlyVal (aop1 C o tm s)

def active : Op → Bool
  | .call c => match c.callee with | .builtin .len | .builtin .min | .builtin .max => false | _ => true
  | .assign _ | .store .. | .mapUpdate .. | .mapEntry .. | .entryStore .. | .insert .. | .panic _ | .defer _ | .range .. | .next .. => true
  | _ => false
/-- operations that look at memory and leave it alone -/
def quietRead : Op → Bool
  | .load .. | .lookup .. | .entry _ => true
  | .call c => match c.callee with | .builtin .len => true | _ => false
  | _ => false

noncomputable def wanted (ops : Array Oper) (tm : Tr AVal) (o : Oper) : Option Bool :=
  match o.guard with
  | none => some true
  | some (j, want) => match ops[j]? with
    | some p => match p.dst with
      | some d => match tm.get d with
        | some (.bool b) => some (match b, want with | true, true => true | false, false => true | _, _ => false)
        | some (.tuple []) => some false
        | _ => none
      | none => none
    | none => none

noncomputable def putD (tm : Tr AVal) (nt : Nat) (d : Option Tmp) (v : AVal) {β : Type} (no : β) (k : Tr AVal → β) : β :=
  match d with
  | some d => match Nat.blt d nt with
    | true => v.force fun v => tm.setK d v k
    | false => no
  | none => k tm

def exitTo (id : Nat) : List AItem → Option (List AItem)
  | [] => none
  | x :: k => match x with
    | .inBlock id' => match Nat.beq id' id with | true => some k | false => exitTo id k
    | _ => exitTo id k
def gotoIn (l : Nat) : List AItem → Option (List AItem)
  | [] => none
  | x :: k => match x with
    | .inScope body => match findLabel body l with
      | some rest => some (.code rest :: .inScope body :: k)
      | none => gotoIn l k
    | _ => gotoIn l k

/-- what comes of an operation that yields v -/
noncomputable def finish (fr : AFr) (v : AVal) {β : Type} (d : β) (k : AFr → β) : β :=
  match fr.todo with
  | .inReg ops (o :: rest) :: t => putD fr.tmps fr.nt o.dst v d fun tm => k { fr with tmps := tm, todo := .inReg ops rest :: t }
  | .inDraw ops bf done rest (some i) :: t => match ops[i]? with
    | some o => putD fr.tmps fr.nt o.dst v d fun tm => strictN (done ||| 2 ^ i) fun done => k { fr with tmps := tm, todo := .inDraw ops bf done rest (some i) :: t }
    | none => d
  | .inRange l :: t => k { fr with todo := .endRange l :: t }
  | .beginRound :: t => k { fr with todo := t }
  | _ => d

inductive SR where
  | one (m : AM)
  | many (l : List AM)
  | done (fn : FuncId) (v : AVal) (s : St)

noncomputable def enterFr (f : FuncId) (args : List AVal) (dfd : Bool) {β : Type} (d : β) (k : AFr → β) : β :=
  match C.fns.get f with
  | some fn => match fn.body with
    | some c => Tr.leaf.setList 0 args fun tm => k { fn := f, tmps := tm, nt := args.length + (fn.ntmps - args.length), todo := [.code c], defers := [], mode := .run, deferred := dfd, roundOf := none }
    | none => d
  | none => d

noncomputable def finishAll (fr : AFr) (callers : List AFr) : List (AVal × St) → Option (List AM)
  | [] => some []
  | (v, s) :: r => match finish fr v none fun fr => some ({ cur := fr, callers, st := s } : AM) with
    | some m => match finishAll fr callers r with | some l => some (m :: l) | none => none
    | none => none

noncomputable def doReturn (m : AM) (v : AVal) : Option SR :=
  match m.callers with
  | [] => match m.cur.deferred, m.cur.roundOf with | false, none => some (.done m.cur.fn v m.st) | _, _ => none
  | c :: rest => match m.cur.deferred, c.mode with
    | true, .returning => some (.one { cur := c, callers := rest, st := m.st })
    | false, .run => finish c v none fun c => some (.one { cur := c, callers := rest, st := m.st })
    | _, _ => none

noncomputable def applyOut (big : FuncId → List AVal → St → Option (Option (AVal × St))) (fr : AFr) (callers : List AFr) (o : Res) : Option SR :=
  match o with
  | some (.val v s) => finish fr v none fun fr => some (.one { cur := fr, callers, st := s })
  | some (.enter f args s) => match big f args s with
    | none => enterFr C f args false none fun fr' => some (.one { cur := fr', callers := fr :: callers, st := s })
    | some (some (v, s)) => finish fr v none fun fr => some (.one { cur := fr, callers, st := s })
    | some none => none
  | some (.round l f tm nt a b s) => some (.one { cur := { fn := f, tmps := tm, nt, todo := [.code a, .beginRound, .code b], defers := [], mode := .run, deferred := false, roundOf := some l }, callers := fr :: callers, st := s })
  | some (.defer d s) => match fr.roundOf with
    | some _ => none
    | none => finish { fr with defers := d :: fr.defers } (.tuple []) none fun fr => some (.one { cur := fr, callers, st := s })
  | some (.many l) => match finishAll fr callers l with | some ms => some (.many ms) | none => none
  | none => none

noncomputable def firstQuiet (bf : List Nat) (done : Nat) : List (Nat × Oper) → Option (Nat × Oper)
  | [] => none
  | (i, o) :: r => match active o.op with
    | true => firstQuiet bf done r
    | false => match bf[i]? with
      | some w => match Nat.beq (w &&& done) w with
        | true => some (i, o)
        | false => firstQuiet bf done r
      | none => none

/-- the reads that may come behind operation j, looked at again -/
noncomputable def recheck (ops : Array Oper) (bj done j : Nat) (tm : Tr AVal) (fr : AFr) (callers : List AFr) (s : St) : List (Nat × Oper) → Bool
  | [] => true
  | (i, o) :: r =>
    match done.testBit i && !(bj.testBit i) && !(Nat.beq i j) && quietRead o.op with
    | true => match wanted ops tm o with
      | some true => match aop C o.op tm fr callers s, o.dst with
        | some (.val v _), some d => match tm.get d with
          | some w => match beqV 4 v w with
            | true => recheck ops bj done j tm fr callers s r
            | false => false
          | none => false
        | _, _ => false
      | some false => recheck ops bj done j tm fr callers s r
      | none => false
    | false => recheck ops bj done j tm fr callers s r

def enum {α : Type} : Nat → List α → List (Nat × α)
  | _, [] => []
  | i, x :: r => (i, x) :: enum (Nat.succ i) r

def opSlots (o : Op) : List Nat := o.operands.toList.filterMap fun | .tmp t => some t | _ => none

/-- does the order in which the operations are done not matter? -/
def regOk1 (i : Nat) (d : Nat) (act : Bool) (bi : Nat) (bf : List Nat) : List (Nat × Oper) → Bool
  | [] => true
  | (j, p) :: r => match bf[j]? with
    | some bj => match (Nat.beq i j || (match p.dst with | some d' => !(Nat.beq d d') | none => true)) &&
          (!((opSlots p.op).any (Nat.beq d)) || bj.testBit i || (act && (Nat.beq i j || bi.testBit j))) with
      | true => regOk1 i d act bi bf r
      | false => false
    | none => false
def regOk (ops : Array Oper) (bf : List Nat) : List (Nat × Oper) → Bool
  | [] => true
  | (i, o) :: r => match bf[i]? with
    | some bi => match (o.after.toList.all fun e => !(Region.binds .any e) || Nat.blt e.on i) &&
          (match o.guard with | some (g, _) => bi.testBit g | none => true) &&
          (match o.dst with | some d => regOk1 i d (active o.op) bi bf (enum 0 ops.toList) | none => true) with
      | true => regOk ops bf r
      | false => false
    | none => false

noncomputable def leave (fr : AFr) (callers : List AFr) (st : St) (jump : Option Code) : Option SR :=
  match fr.roundOf with
  | none => match jump with
    | none | some .ret => some (.one { cur := { fr with mode := .returning }, callers, st })
    | _ => none
  | some l => match st.heap.get l, Nat.ble C.lo l with
    | some (.loop _ _ fn tm nt ps a b d), true =>
      st.put l (.loop (match jump with | none => .ready | some _ => .done) jump fn tm nt ps a b d) fun st =>
        doReturn { cur := fr, callers, st } (.bool (match jump with | none => true | some _ => false))
    | _, _ => none

noncomputable def stepRange (big : FuncId → List AVal → St → Option (Option (AVal × St))) (fr : AFr) (callers : List AFr) (st : St) (f : Operand) (params : Array Tmp) (a b : Code) (k : List AItem) : Option SR :=
  let go (st : St) (d : Nat) (mk : List ADef) : Option SR :=
    newBlk C st (.loop .ready none fr.fn fr.tmps fr.nt params.toList a b d) none fun l st =>
      let fr' := { fr with todo := .inRange l :: k, defers := mk ++ fr.defers }
      match eval fr.tmps f with
      | some (.func f first captured) => applyOut C big fr' callers (callFn C f (first ++ ([.yield l] ++ captured)) st)
      | _ => none
  match fr.roundOf with
  | some l => match st.heap.get l with | some (.loop _ _ _ _ _ _ _ _ d) => go st d [] | _ => none
  | none => newBlk C st (.deferred (some [])) none fun r st => go st r [.collected r]

noncomputable def stepDraw (big : FuncId → List AVal → St → Option (Option (AVal × St))) (fr : AFr) (callers : List AFr) (st : St) (ops : Array Oper) (bf : List Nat) (done : Nat) (rest : List (Nat × Oper)) (k : List AItem) : Option SR :=
  match firstQuiet bf done rest with
  | some (i, o) =>
    let rest := rest.filter fun x => !(Nat.beq x.1 i)
    match wanted ops fr.tmps o with
    | some true => match aop C o.op fr.tmps fr callers st with
      | some (.val v st) => putD fr.tmps fr.nt o.dst v none fun tm => strictN (done ||| 2 ^ i) fun done => some (.one { cur := { fr with tmps := tm, todo := .inDraw ops bf done rest none :: k }, callers, st })
      | _ => none
    | some false => putD fr.tmps fr.nt o.dst (.tuple []) none fun tm => strictN (done ||| 2 ^ i) fun done => some (.one { cur := { fr with tmps := tm, todo := .inDraw ops bf done rest none :: k }, callers, st })
    | none => none
  | none => match rest with
    | [] => some (.one { cur := { fr with todo := k }, callers, st })
    | (i, o) :: r => match bf[i]? with
      | some w => match Nat.beq (w &&& done) w && r.all (fun x => !(active x.2.op) || (match bf[x.1]? with | some w => w.testBit i | none => false)) with
        | true =>
          let fr := { fr with todo := .inDraw ops bf done r (some i) :: k }
          match wanted ops fr.tmps o with
          | some true => applyOut C big fr callers (aop C o.op fr.tmps fr callers st)
          | some false => finish fr (.tuple []) none fun fr => some (.one { cur := fr, callers, st })
          | none => none
        | false => none
      | none => none

noncomputable def resultsOf (tm : Tr AVal) (st : St) : List ResultVar → Option (List AVal)
  | [] => some []
  | x :: r => match (match x with
      | .tmp t => match tm.get t with | some v => some v | none => some (.tuple [])
      | .cell a t => match tm.get a with | some (.ptr b off) => loadVar C st t b off | _ => none), resultsOf tm st r with
    | some v, some l => some (v :: l)
    | _, _ => none

noncomputable def stepRet (_big : FuncId → List AVal → St → Option (Option (AVal × St))) (fr : AFr) (callers : List AFr) (st : St) : Option SR :=
  match fr.defers with
  | .collected r :: ds => match st.heap.get r, Nat.ble C.lo r with
    | some (.deferred (some l)), true => st.put r (.deferred none) fun st => some (.one { cur := { fr with defers := l ++ ds }, callers, st })
    | _, _ => none
  | .call f args :: ds => match callFn C f args st with
    | some (.enter f args st) => enterFr C f args true none fun fr' => some (.one { cur := fr', callers := { fr with defers := ds } :: callers, st })
    | _ => none
  | [] => match C.fns.get fr.fn with
    | some fn => match resultsOf C fr.tmps st fn.results.toList with
      | some vs => doReturn { cur := fr, callers, st } (match vs with | [v] => v | _ => .tuple vs)
      | none => none
    | none => none

noncomputable def stepCode (big : FuncId → List AVal → St → Option (Option (AVal × St))) (fr : AFr) (callers : List AFr) (st : St) (c : Code) (k : List AItem) : Option SR :=
  match c with
  | .ret => leave C fr callers st (some .ret)
  | .skip => some (.one { cur := { fr with todo := k }, callers, st })
  | .label _ => some (.one { cur := { fr with todo := k }, callers, st })
  | .seq a b => some (.one { cur := { fr with todo := .code a :: .code b :: k }, callers, st })
  | .cond c a b => match eval fr.tmps c with
    | some (.bool true) => some (.one { cur := { fr with todo := .code a :: k }, callers, st })
    | some (.bool false) => some (.one { cur := { fr with todo := .code b :: k }, callers, st })
    | _ => none
  | .block id b => some (.one { cur := { fr with todo := .code b :: .inBlock id :: k }, callers, st })
  | .loop b => some (.one { cur := { fr with todo := .code b :: .inLoop b :: k }, callers, st })
  | .scope b => some (.one { cur := { fr with todo := .code b :: .inScope b :: k }, callers, st })
  | .exit id => match exitTo id k with
    | some k => some (.one { cur := { fr with todo := k }, callers, st })
    | none => leave C fr callers st (some (.exit id))
  | .goto l => match gotoIn l k with
    | some k => some (.one { cur := { fr with todo := k }, callers, st })
    | none => leave C fr callers st (some (.goto l))
  | .rangeFunc f ps a b => stepRange C big fr callers st f ps a b k
  | .region _ ops draw => match draw with
    | false => some (.one { cur := { fr with todo := .inReg ops ops.toList :: k }, callers, st })
    | true => match regOk ops (Region.before ops).toList (enum 0 ops.toList) with
      | true => some (.one { cur := { fr with todo := .inDraw ops (Region.before ops).toList 0 (enum 0 ops.toList) none :: k }, callers, st })
      | false => none
  | .refuse _ => none

noncomputable def step (big : FuncId → List AVal → St → Option (Option (AVal × St))) (m : AM) : Option SR :=
  match m with
  | ⟨fr, callers, st⟩ => match fr.mode with
    | .returning => stepRet C big fr callers st
    | .run => match fr.todo with
      | [] => leave C fr callers st none
      | x :: k => match x with
        | .code c => stepCode C big fr callers st c k
        | .inBlock _ => some (.one { cur := { fr with todo := k }, callers, st })
        | .inScope _ => some (.one { cur := { fr with todo := k }, callers, st })
        | .inLoop b => some (.one { cur := { fr with todo := .code b :: .inLoop b :: k }, callers, st })
        | .inReg ops rest => match rest with
          | [] => some (.one { cur := { fr with todo := k }, callers, st })
          | o :: rest => match wanted ops fr.tmps o with
            | some true => applyOut C big fr callers (aop C o.op fr.tmps fr callers st)
            | some false => putD fr.tmps fr.nt o.dst (.tuple []) none fun tm => some (.one { cur := { fr with tmps := tm, todo := .inReg ops rest :: k }, callers, st })
            | none => none
        | .inDraw ops bf done rest pend => match pend with
          | none => stepDraw C big fr callers st ops bf done rest k
          | some j => match bf[j]? with
            | some bj => match done.testBit j && recheck C ops bj done j fr.tmps fr callers st (enum 0 ops.toList) with
              | true => some (.one { cur := { fr with todo := .inDraw ops bf done rest none :: k }, callers, st })
              | false => none
            | none => none
        | .inRange _ => none
        | .endRange l => match st.heap.get l, Nat.ble C.lo l with
          | some (.loop ls p fn tm nt ps a b d), true => match ls with
            | .busy => none
            | _ => st.put l (.loop .exhausted p fn tm nt ps a b d) fun st =>
              some (.one { cur := { fr with todo := match p with | some c => .code c :: k | none => k }, callers, st })
          | _, _ => none
        | .beginRound => match fr.roundOf with
          | some l => match st.heap.get l, Nat.ble C.lo l with
            | some (.loop .ready p fn tm nt ps a b d), true => st.put l (.loop .busy p fn tm nt ps a b d) fun st => some (.one { cur := { fr with todo := k }, callers, st })
            | _, _ => none
          | none => none
end
end Go.AM

namespace Go.AM

/-! runs, calls as one step, and what is known already -/
def logBeq1 (a b : Nat × ABlk) (f : ABlk → ABlk → Bool) : Bool := Nat.beq a.1 b.1 && f a.2 b.2
noncomputable def trBeq (t : Tr AVal) : Tr AVal → Bool :=
  Tr.rec (fun u => match u with | .leaf => true | .node _ _ _ => false) (fun _ v _ ihl ihr u => match u with
    | .leaf => false
    | .node l' v' r' => (match v, v' with | none, none => true | some a, some b => beqV 4 a b | _, _ => false) && ihl l' && ihr r') t
noncomputable def blkBeq (a b : ABlk) : Bool :=
  match a, b with
  | .dead, .dead => true
  | .row e n t, .row e' n' t' => Nat.beq e e' && Nat.beq n n' && trBeq t t'
  | .map es c, .map es' c' => Nat.beq c c' && listBeq (fun x y => beqV 4 x.1 y.1 && beqV 4 x.2.1 y.2.1 && Nat.beq x.2.2 y.2.2) es es'
  | _, _ => false
def finalOf (h0 : Option ABlk) (b : Nat) : List (Nat × ABlk) → Option ABlk
  | [] => h0
  | (c, x) :: r => match Nat.beq c b with | true => some x | false => finalOf h0 b r
noncomputable def meetBlk (x y : Option ABlk) : Option ABlk := match x, y with
  | some x, some y => match blkBeq x y with | true => some x | false => none
  | _, _ => none
/-- what both have: the changes of the one, where the other one's block is the same in the end; blocks that were there before must be the same -/
noncomputable def meetLog (h0 : Tr ABlk) (la lb : List (Nat × ABlk)) : List (Nat × ABlk) → List (Nat × ABlk) → Option (List (Nat × ABlk))
  | [], acc => some acc
  | (b, _) :: r, acc => match acc.any fun x => Nat.beq x.1 b with
    | true => meetLog h0 la lb r acc
    | false => match meetBlk (finalOf (h0.get b) b la) (finalOf (h0.get b) b lb) with
      | some x => meetLog h0 la lb r ((b, x) :: acc)
      | none => match h0.get b with
        | none => meetLog h0 la lb r ((b, .dead) :: acc)
        | some _ => none
noncomputable def applyLog {β : Type} (h : Tr ABlk) : List (Nat × ABlk) → (Tr ABlk → β) → β
  | [], k => k h
  | (b, x) :: r, k => applyLog h r fun h => h.setK b x k
noncomputable def merge (h0 : Tr ABlk) : List (Option (AVal × St)) → Option (AVal × St)
  | [] => none
  | [x] => x
  | x :: y :: r => match x, merge h0 (y :: r) with
    | some (v, s), some (v', s') => match beqV 4 v v' with
      | true =>
        match meetLog h0 s.log s'.log (s.log ++ s'.log) [] with
        | some l => applyLog h0 l fun h => strictN (max s.next s'.next + 8192) fun n => some (v, { heap := h, next := n, log := l })
        | none => none
      | false => none
    | _, _ => none

abbrev Big := FuncId → List AVal → St → Option (Option (AVal × St))

section
variable (C : Cfg)
noncomputable def explore (big : Big) (f : FuncId) (h0 : Tr ABlk) (n : Nat) : AM → Option (AVal × St) :=
  Nat.rec (fun _ => none) (fun _ ih m => match step C big m with
    | some (.one m) => ih m
    | some (.done g v s) => match Nat.beq g f with | true => some (v, s) | false => none
    | some (.many l) => merge h0 (l.map ih)
    | none => none) n

abbrev Ren := List (Nat × Nat)
noncomputable def renGet (b : Nat) : Ren → Option Nat
  | [] => none
  | (x, y) :: r => match Nat.beq x b with | true => some y | false => renGet b r
noncomputable def bindN (ρ : Ren) (b b' : Nat) : Option Ren :=
  match renGet b ρ with
  | some y => match Nat.beq y b' with | true => some ρ | false => none
  | none => some ((b, b') :: ρ)
/-- does a value (of the memo) read as another one does, blocks renamed? -/
noncomputable def matchV (ρ : Ren) (a v : AVal) : Option Ren :=
  match a, v with
  | .ptr b off, .ptr b' off' => match Nat.beq off off' with | true => bindN ρ b b' | false => none
  | .slice b off len cp es, .slice b' off' len' cp' es' =>
    match Nat.beq off off' && Nat.beq len len' && Nat.beq es es' && Nat.ble cp cp' && Nat.ble len cp with | true => bindN ρ b b' | false => none
  | a, v => match beqV 3 a v with
    | true => match a with
      | .bool _ | .int _ _ | .str _ | .nilptr | .nilslice | .nilmap | .nilfunc | .niliface => some ρ
      | _ => none
    | false => none
noncomputable def matchVs (ρ : Ren) : List AVal → List AVal → Option Ren
  | [], [] => some ρ
  | a :: x, v :: y => match matchV ρ a v with | some ρ => matchVs ρ x y | none => none
  | _, _ => none
noncomputable def matchArgs (ρ : Ren) : List AVal → List AVal → Option Ren
  | [], [] => some ρ
  | .agg l :: x, .agg l' :: y => match matchVs ρ l l' with | some ρ => matchArgs ρ x y | none => none
  | a :: x, v :: y => match matchV ρ a v with | some ρ => matchArgs ρ x y | none => none
  | _, _ => none
noncomputable def matchCells (ρ : Ren) (t : Tr AVal) (t' : Tr AVal) : Nat → Nat → Option Ren
  | 0, _ => some ρ
  | n + 1, i => match t.get i, t'.get i with
    | some a, some v => match matchV ρ a v with | some ρ => matchCells ρ t t' n (Nat.succ i) | none => none
    | _, _ => none
noncomputable def matchBlks (ρ : Ren) (s : St) : List (Nat × ABlk) → Option Ren
  | [] => some ρ
  | (b, x) :: r => match renGet b ρ, x with
    | some b', .row e n t => match s.heap.get b' with
      | some (.row e' n' t') => match Nat.beq e e' && Nat.ble n n' with
        | true => match matchCells ρ t t' n 0 with | some ρ => matchBlks ρ s r | none => none
        | false => none
      | _ => none
    | _, _ => none
noncomputable def memoGet (f : FuncId) (args : List AVal) (s : St) : List Memo → Option AVal
  | [] => none
  | m :: r => match Nat.beq m.fn f with
    | true => match matchArgs [] m.args args with
      | some ρ => match matchBlks ρ s m.blks with
        | some _ => some m.res
        | none => memoGet f args s r
      | none => memoGet f args s r
    | false => memoGet f args s r

noncomputable def bigL (fuel : Nat) (lvl : Nat) : Big :=
  Nat.rec (motive := fun _ => Big) (fun _ _ _ => none) (fun _ ih f args s =>
    match memoGet f args s C.memo with
    | some v => some (some (v, s))
    | none => match C.forky.any (Nat.beq f) with
      | true => match enterFr C f args false none fun fr => explore C ih f s.heap fuel { cur := fr, callers := [], st := { s with log := [] } } with
        | some (v, s') => some (some (v, { heap := s'.heap, next := s'.next, log := s'.log ++ s.log }))
        | none => some none
      | false => none) lvl

noncomputable def blksTr : List (Nat × ABlk) → Tr ABlk → Tr ABlk
  | [], t => t
  | (b, x) :: r, t => t.setK b x fun t => blksTr r t

/-- a call from blocks that it may only read -/
noncomputable def callRun (lvl fuel : Nat) (f : FuncId) (args : List AVal) (blks : List (Nat × ABlk)) : Option AVal :=
  match enterFr C f args false none fun fr => explore C (bigL C fuel lvl) f (blksTr blks .leaf) fuel { cur := fr, callers := [], st := { heap := blksTr blks .leaf, next := C.lo, log := [] } } with
  | some (v, _) => some v
  | none => none
noncomputable def isBool (b : Bool) : Option AVal → Bool
  | some (.bool c) => match b, c with | true, true => true | false, false => true | _, _ => false
  | _ => false
end
end Go.AM
