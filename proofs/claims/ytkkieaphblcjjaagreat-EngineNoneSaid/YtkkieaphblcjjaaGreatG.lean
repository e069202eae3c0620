/- The machine in a form that is fast to run. Without conditions. -/
import Derived.Test.YtkkieaphblcjjaaGreatA

namespace Go.AM

/-! the machine once more, in a form that the kernel runs fast: closed minor premises, what is known of the text staged -/
section
variable {β : Type}
/-- by the form of a value: closed minor premises -/
noncomputable def AVal.sw (v : AVal) (d : β) (fb : Bool → β) (fi : IntKind → Int → β) (fs : List Nat → β) (fp : Nat → Nat → β) (fl : Nat → Nat → Nat → Nat → Nat → β) (ft : List AVal → β) : β :=
  @AVal.rec (fun _ => β → (Bool → β) → (IntKind → Int → β) → (List Nat → β) → (Nat → Nat → β) → (Nat → Nat → Nat → Nat → Nat → β) → (List AVal → β) → β) (fun _ => Unit)
    (fun b _ fb _ _ _ _ _ => fb b) (fun k n _ _ fi _ _ _ _ => fi k n) (fun l _ _ _ fs _ _ _ => fs l)
    (fun d _ _ _ _ _ _ => d) (fun b o _ _ _ _ fp _ _ => fp b o) (fun d _ _ _ _ _ _ => d) (fun b o n c e _ _ _ _ _ fl _ => fl b o n c e)
    (fun d _ _ _ _ _ _ => d) (fun _ d _ _ _ _ _ _ => d) (fun d _ _ _ _ _ _ => d) (fun _ _ _ _ _ d _ _ _ _ _ _ => d) (fun _ d _ _ _ _ _ _ => d) (fun _ d _ _ _ _ _ _ => d)
    (fun d _ _ _ _ _ _ => d) (fun _ _ _ d _ _ _ _ _ _ => d) (fun _ _ d _ _ _ _ _ _ => d) (fun l _ _ _ _ _ _ _ ft => ft l) (fun _ _ _ d _ _ _ _ _ _ => d) (fun d _ _ _ _ _ _ => d)
    () (fun _ _ _ _ => ()) v d fb fi fs fp fl ft
noncomputable def AVal.onInt (v : AVal) (d : β) (f : IntKind → Int → β) : β :=
  @AVal.rec (fun _ => β → (IntKind → Int → β) → β) (fun _ => Unit)
    (fun _ d _ => d) (fun k n _ f => f k n) (fun _ d _ => d)
    (fun d _ => d) (fun _ _ d _ => d) (fun d _ => d) (fun _ _ _ _ _ d _ => d)
    (fun d _ => d) (fun _ d _ => d) (fun d _ => d) (fun _ _ _ _ _ d _ => d) (fun _ d _ => d) (fun _ d _ => d)
    (fun d _ => d) (fun _ _ _ d _ => d) (fun _ _ d _ => d) (fun _ _ d _ => d) (fun _ _ _ d _ => d) (fun d _ => d)
    () (fun _ _ _ _ => ()) v d f
noncomputable def AVal.onPtr (v : AVal) (d : β) (f : Nat → Nat → β) : β :=
  @AVal.rec (fun _ => β → (Nat → Nat → β) → β) (fun _ => Unit)
    (fun _ d _ => d) (fun _ _ d _ => d) (fun _ d _ => d)
    (fun d _ => d) (fun b o _ f => f b o) (fun d _ => d) (fun _ _ _ _ _ d _ => d)
    (fun d _ => d) (fun _ d _ => d) (fun d _ => d) (fun _ _ _ _ _ d _ => d) (fun _ d _ => d) (fun _ d _ => d)
    (fun d _ => d) (fun _ _ _ d _ => d) (fun _ _ d _ => d) (fun _ _ d _ => d) (fun _ _ _ d _ => d) (fun d _ => d)
    () (fun _ _ _ _ => ()) v d f
noncomputable def AVal.onBool (v : AVal) (d : β) (f : Bool → β) : β :=
  @AVal.rec (fun _ => β → (Bool → β) → β) (fun _ => Unit)
    (fun b _ f => f b) (fun _ _ d _ => d) (fun _ d _ => d)
    (fun d _ => d) (fun _ _ d _ => d) (fun d _ => d) (fun _ _ _ _ _ d _ => d)
    (fun d _ => d) (fun _ d _ => d) (fun d _ => d) (fun _ _ _ _ _ d _ => d) (fun _ d _ => d) (fun _ d _ => d)
    (fun d _ => d) (fun _ _ _ d _ => d) (fun _ _ d _ => d) (fun _ _ d _ => d) (fun _ _ _ d _ => d) (fun d _ => d)
    () (fun _ _ _ _ => ()) v d f
/-- forced (what AVal.force does) -/
noncomputable def AVal.forceF (v : AVal) (k : AVal → β) : β :=
  @AVal.rec (fun _ => (AVal → β) → β) (fun _ => Unit)
    (fun b k => Bool.rec (k (.bool false)) (k (.bool true)) b) (fun kd n k => strictI n fun n => k (.int kd n)) (fun l k => k (.str l))
    (fun k => k .nilptr) (fun b o k => strictN b fun b => strictN o fun o => k (.ptr b o)) (fun k => k .nilslice)
    (fun b o n c e k => strictN b fun b => strictN o fun o => strictN n fun n => strictN c fun c => k (.slice b o n c e))
    (fun k => k .nilmap) (fun b k => k (.map b)) (fun k => k .nilfunc) (fun f a b _ _ k => k (.func f a b)) (fun l k => k (.yield l)) (fun i k => k (.iter i))
    (fun k => k .niliface) (fun t v _ k => k (.iface t v)) (fun l _ k => k (.agg l)) (fun l _ k => k (.tuple l)) (fun kd m r k => k (.mod kd m r)) (fun k => k .any)
    () (fun _ _ _ _ => ()) v k
noncomputable def ABlk.onRow (x : ABlk) (d : β) (f : TypeId → Nat → Tr AVal → β) : β :=
  @ABlk.rec (fun _ => β → (TypeId → Nat → Tr AVal → β) → β) (fun d _ => d) (fun e n t _ f => f e n t) (fun _ _ d _ => d) (fun _ _ _ _ _ _ _ _ _ d _ => d) (fun _ d _ => d) (fun _ _ d _ => d) (fun _ _ _ _ d _ => d) x d f
end

noncomputable def kc (k : IntKind) : Nat := IntKind.rec 0 1 2 3 4 5 6 7 k
noncomputable def kmax (k : IntKind) : Nat := IntKind.rec 127 32767 2147483647 9223372036854775807 255 65535 4294967295 18446744073709551615 k
noncomputable def wrapF (k : IntKind) (n : Int) : Int :=
  Int.rec (motive := fun _ => IntKind → Int) (fun m k => Bool.rec (k.wrap (.ofNat m)) (.ofNat m) (Nat.ble m (kmax k)))
    (fun m k => Bool.rec (k.wrap (.negSucc m)) (Bool.rec (k.wrap (.negSucc m)) (.negSucc m) (Nat.ble m (kmax k))) (Nat.ble (kc k) 3)) n k
noncomputable def addI (a b : Int) : Int :=
  Int.rec (motive := fun _ => Int → Int) (fun m b => Int.rec (motive := fun _ => Nat → Int) (fun n m => .ofNat (Nat.add m n)) (fun n m => Int.add (.ofNat m) (.negSucc n)) b m) (fun m b => Int.add (.negSucc m) b) a b
noncomputable def subI (a b : Int) : Int :=
  Int.rec (motive := fun _ => Int → Int) (fun m b => Int.rec (motive := fun _ => Nat → Int) (fun n m => Bool.rec (Int.sub (.ofNat m) (.ofNat n)) (.ofNat (Nat.sub m n)) (Nat.ble n m)) (fun n m => Int.sub (.ofNat m) (.negSucc n)) b m) (fun m b => Int.sub (.negSucc m) b) a b
noncomputable def eqI (a b : Int) : Bool :=
  Int.rec (motive := fun _ => Int → Bool) (fun m b => Int.rec (motive := fun _ => Nat → Bool) (fun n m => Nat.beq m n) (fun _ _ => false) b m) (fun m b => Int.rec (motive := fun _ => Nat → Bool) (fun _ _ => false) (fun n m => Nat.beq m n) b m) a b
noncomputable def ltI (a b : Int) : Bool :=
  Int.rec (motive := fun _ => Int → Bool) (fun m b => Int.rec (motive := fun _ => Nat → Bool) (fun n m => Nat.ble (Nat.succ m) n) (fun _ _ => false) b m) (fun m b => Int.rec (motive := fun _ => Nat → Bool) (fun _ _ => true) (fun n m => Nat.ble (Nat.succ n) m) b m) a b
noncomputable def notB (b : Bool) : Bool := Bool.rec true false b

structure EvV where
  f : Tr AVal → AVal
inductive DOp where
  | val (f : Tr AVal → St → Option AVal)
  | eff (f : Tr AVal → St → Option (AVal × St))
  | slow
inductive Dec where
  | val (d : Nat) (f : Tr AVal → St → Option AVal)
  | eff (d : Option Nat) (f : Tr AVal → St → Option (AVal × St))
  | slow

noncomputable def evV (x : Operand) : Option EvV :=
  match x with
  | .tmp t => strictN t fun t => some ⟨fun tm => Option.rec (.tuple []) (fun v => v) (tm.getB (Nat.succ t))⟩
  | .const v => match ofValue 4 v with | some a => a.forceF fun a => some ⟨fun _ => a⟩ | none => none
  | .func f => some ⟨fun _ => .func f [] []⟩
  | .global _ => none

noncomputable def effOf (r : Res) : Option (AVal × St) := match r with | some (.val v s) => some (v, s) | _ => none

/-! what both of two ways tell: the logs go back to where the ways parted (h1); what was there when the function was entered (h0) must be the same -/
/-- the changes that both made last, and alike -/
noncomputable def common {β : Type} (la : List (Nat × ABlk)) : List (Nat × ABlk) → (List (Nat × ABlk) → List (Nat × ABlk) → List (Nat × ABlk) → β) → β :=
  List.rec (fun lb k => k [] [] lb) (fun p la ih lb k => List.rec (k [] (p :: la) []) (fun q lb _ => Bool.rec (k [] (p :: la) (q :: lb)) (ih lb fun P a b => k (p :: P) a b) (Nat.beq p.1 q.1 && blkBeq p.2 q.2)) lb) la
/-- the blocks that the two know otherwise; what was there at the outset must not be among them -/
noncomputable def deads (h0 h1 : Tr ABlk) (P a b : List (Nat × ABlk)) : List (Nat × ABlk) → List Nat → Option (List Nat)
  | [], acc => some acc
  | (n, _) :: r, acc => match acc.any (Nat.beq n) with
    | true => deads h0 h1 P a b r acc
    | false => match finalOf none n P with
      | some _ => deads h0 h1 P a b r acc
      | none => match meetBlk (finalOf (h1.getB (Nat.succ n)) n a) (finalOf (h1.getB (Nat.succ n)) n b) with
        | some _ => deads h0 h1 P a b r acc
        | none => match h0.getB (Nat.succ n) with
          | none => deads h0 h1 P a b r (n :: acc)
          | some _ => none
noncomputable def kill {β : Type} (l : List Nat) : Tr ABlk → List (Nat × ABlk) → (Tr ABlk → List (Nat × ABlk) → β) → β :=
  List.rec (fun h lg k => k h lg) (fun n _ ih h lg k => h.setB (Nat.succ n) .dead fun h => ih h ((n, .dead) :: lg) k) l
noncomputable def mergeF (h0 h1 : Tr ABlk) : List (Option (AVal × St)) → Option (AVal × St)
  | [] => none
  | [x] => x
  | x :: y :: r => match x, mergeF h0 h1 (y :: r) with
    | some (v, s), some (v', s') => match beqV 4 v v' with
      | true => common s.log s'.log fun P a b => match deads h0 h1 P a b (a ++ b) [] with
        | some ks => kill ks s'.heap s'.log fun h lg => strictN (max s.next s'.next) fun n => some (v, { heap := h, next := n, log := lg })
        | none => none
      | false => none
    | _, _ => none

section
variable (C : Cfg)
noncomputable def loadOne (st : St) (b off : Nat) : Option AVal :=
  St.rec (motive := fun _ => Nat → Nat → Option AVal) (fun h _ _ b off => Option.rec none (fun x => ABlk.onRow x none fun _ n t => Bool.rec none (t.getB (Nat.succ off)) (Nat.ble (Nat.succ off) n)) (h.getB (Nat.succ b))) st b off
noncomputable def storeOne (lo : Nat) (st : St) (b off : Nat) (v : AVal) : Option (AVal × St) :=
  St.rec (motive := fun _ => Nat → Nat → Nat → AVal → Option (AVal × St)) (fun h next log lo b off v =>
    Bool.rec none (Option.rec none (fun x => ABlk.onRow x none fun e n t => Bool.rec none (t.setB (Nat.succ off) v fun t => h.setB (Nat.succ b) (.row e n t) fun h => some (.tuple [], ⟨h, next, (b, .row e n t) :: log⟩)) (Nat.ble (Nat.succ off) n)) (h.getB (Nat.succ b))) (Nat.ble lo b)) st lo b off v

/-- two whole numbers of one kind -/
noncomputable def ints (f : IntKind → Int → Int → AVal) (x y : AVal) : Option AVal :=
  x.onInt none fun k a => y.onInt none fun l b => Bool.rec none (some (f k a b)) (Nat.beq (kc k) (kc l))
noncomputable def intsOr (f : Int → Int → Bool) (g : Option AVal) (x y : AVal) : Option AVal :=
  x.onInt g fun k a => y.onInt g fun l b => Bool.rec none (some (.bool (f a b))) (Nat.beq (kc k) (kc l))

noncomputable def valOf (r : Res) : Option AVal := match r with | some (.val v _) => some v | _ => none

noncomputable def decBin (op : BinOp) (t : TypeId) (x y : Operand) (fx fy : Tr AVal → AVal) : DOp :=
  match op with
  | .add => .val fun tm _ => ints (fun k a b => .int k (wrapF k (addI a b))) (fx tm) (fy tm)
  | .sub => .val fun tm _ => ints (fun k a b => .int k (wrapF k (subI a b))) (fx tm) (fy tm)
  | .lss => .val fun tm _ => ints (fun _ a b => .bool (ltI a b)) (fx tm) (fy tm)
  | .leq => .val fun tm _ => ints (fun _ a b => .bool (notB (ltI b a))) (fx tm) (fy tm)
  | .gtr => .val fun tm _ => ints (fun _ a b => .bool (ltI b a)) (fx tm) (fy tm)
  | .geq => .val fun tm _ => ints (fun _ a b => .bool (notB (ltI a b))) (fx tm) (fy tm)
  | .eql => .val fun tm s => intsOr (fun a b => eqI a b) (valOf (opBin C .eql t x y (some (fx tm)) (some (fy tm)) s)) (fx tm) (fy tm)
  | .neq => .val fun tm s => intsOr (fun a b => notB (eqI a b)) (valOf (opBin C .neq t x y (some (fx tm)) (some (fy tm)) s)) (fx tm) (fy tm)
  | op => .val fun tm s => valOf (opBin C op t x y (some (fx tm)) (some (fy tm)) s)

noncomputable def addPtr (x : AVal) (o : Nat) : Option AVal := x.onPtr none fun b off => some (.ptr b (Nat.add off o))
noncomputable def idxSlice (x i : AVal) (z : Nat) : Option AVal :=
  x.sw none (fun _ => none) (fun _ _ => none) (fun _ => none) (fun _ _ => none) (fun b off n _ _ => i.onInt none fun _ i => Int.rec (fun i => Bool.rec none (some (.ptr b (Nat.add off (Nat.mul i z)))) (Nat.ble (Nat.succ i) n)) (fun _ => none) i) (fun _ => none)

noncomputable def decOp (o : Op) : DOp :=
  match o with
  | .move x => match evV x with | some ⟨f⟩ => .val fun tm _ => some (f tm) | none => .slow
  | .assign x => match evV x with | some ⟨f⟩ => .val fun tm _ => some (f tm) | none => .slow
  | .pick c a b => match evV c, evV a, evV b with
    | some ⟨fc⟩, some ⟨fa⟩, some ⟨fb⟩ => .val fun tm _ => (fc tm).onBool none fun c => Bool.rec (some (fb tm)) (some (fa tm)) c
    | _, _, _ => .slow
  | .load t a => match isAgg C t, sizeOf C t, evV a with
    | some false, some _, some ⟨f⟩ => .val fun tm s => (f tm).onPtr none fun b off => loadOne s b off
    | some true, some _, some ⟨f⟩ => .val fun tm s => valOf (opLoad C t (some (f tm)) s)
    | _, _, _ => .slow
  | .fieldAddr t x i => match under C t, evV x with
    | some (.struct fs), some ⟨f⟩ => match fs[i]? with
      | some fd => match sizeOf C fd.type with
        | some (_ + 1) => strictN fd.offset fun o => .val fun tm _ => addPtr (f tm) o
        | _ => .slow
      | none => .slow
    | _, _ => .slow
  | .indexAddr t x i => match under C t, evV x, evV i with
    | some (.slice e), some ⟨f⟩, some ⟨g⟩ => match sizeOf C e with
      | some z => strictN z fun z => .val fun tm _ => idxSlice (f tm) (g tm) z
      | none => .slow
    | some _, some ⟨f⟩, some ⟨g⟩ => .val fun tm s => valOf (opIndexAddr C t (some (f tm)) (some (g tm)) s)
    | _, _, _ => .slow
  | .binOp op t x y _ => match evV x, evV y with
    | some ⟨f⟩, some ⟨g⟩ => decBin C op t x y f g
    | _, _ => .slow
  | .unOp op _ x => match op, evV x with
    | .not, some ⟨f⟩ => .val fun tm _ => (f tm).onBool none fun b => some (.bool (notB b))
    | _, _ => .slow
  | .extract x i => match evV x with
    | some ⟨f⟩ => strictN i fun i => .val fun tm _ => (f tm).sw none (fun _ => none) (fun _ _ => none) (fun _ => none) (fun _ _ => none) (fun _ _ _ _ _ => none) (fun l => l[i]?)
    | none => .slow
  | .nilCheck x => match evV x with
    | some ⟨f⟩ => .val fun tm s => (f tm).onPtr (valOf (opNil (some (f tm)) s)) fun b off => some (.ptr b off)
    | none => .slow
  | .store t a x => match sizeOf C t, evV a, evV x with
    | some n, some ⟨f⟩, some ⟨g⟩ => match isAgg C t with
      | some false => match Nat.beq n 1 with
        | true => .eff fun tm s => (g tm).forceF fun v => match v.flat with
          | true => (f tm).onPtr none fun b off => storeOne C.lo s b off v
          | false => none
        | false => .slow
      | _ => .eff fun tm s => effOf (opStore C t (some (f tm)) (some (g tm)) s)
    | _, _, _ => .slow
  | .call c => match c.callee with
    | .builtin .len => match c.args.toList, c.argTypes[0]? with
      | [x], some t => match under C t, evV x with
        | some (.slice _), some ⟨f⟩ => .val fun tm _ => (f tm).sw (valOf (opLen C (some t) ⟨.leaf, 0, []⟩ (f tm))) (fun _ => none) (fun _ _ => none) (fun _ => none) (fun _ _ => none) (fun _ _ n _ _ => some (.int .i64 (.ofNat n))) (fun _ => none)
        | some .string, some ⟨f⟩ => .val fun tm s => valOf (opLen C (some t) s (f tm))
        | _, _ => .slow
      | _, _ => .slow
    | .builtin .append => match c.args.toList, c.argTypes.toList with
      | [x, y], [t0, t1] => match evV x, evV y with
        | some ⟨f⟩, some ⟨g⟩ => .eff fun tm s => effOf (opAppend C t0 t1 s (f tm) (g tm))
        | _, _ => .slow
      | _, _ => .slow
    | _ => .slow
  | .defer _ => .slow
  | .next _ _ => .slow
  | .alloc e => .eff fun _ s => effOf (opAlloc C e s)
  | .box e x => match evV x with | some ⟨f⟩ => .eff fun tm s => effOf (opBox C e (some (f tm)) s) | none => .slow
  | .build t ps => .eff fun tm s => effOf (opBuild C t ps tm s)
  | .buildSlice t n ps => .eff fun tm s => effOf (opBuildSlice C t n ps tm s)
  | .convert a b x => match evV x with | some ⟨f⟩ => .eff fun tm s => effOf (opConvert C a b (some (f tm)) s) | none => .slow
  | .makeFunc fn a b => .eff fun tm s => effOf (opMakeFunc fn a b tm s)
  | .makeSlice t l c => match evV l, evV c with | some ⟨f⟩, some ⟨g⟩ => .eff fun tm s => effOf (opMakeSlice C t (some (f tm)) (some (g tm)) s) | _, _ => .slow
  | .slice t x lo hi mx => match evV x with | some ⟨f⟩ => .eff fun tm s => effOf (opSlice C t (some (f tm)) lo hi mx tm s) | none => .slow
  | .lookup t x k ok => match evV x, evV k with | some ⟨f⟩, some ⟨g⟩ => .eff fun tm s => effOf (opLookup C t (some (f tm)) (some (g tm)) ok s) | _, _ => .slow
  | .mapUpdate t m k x => match evV m, evV k, evV x with | some ⟨f⟩, some ⟨g⟩, some ⟨h⟩ => .eff fun tm s => effOf (opMapUpdate C t (some (f tm)) (some (g tm)) (some (h tm)) s) | _, _, _ => .slow
  | .insert t m k x => match evV m, evV k, evV x with | some ⟨f⟩, some ⟨g⟩, some ⟨h⟩ => .eff fun tm s => effOf (opMapUpdate C t (some (f tm)) (some (g tm)) (some (h tm)) s) | _, _, _ => .slow
  | .index t x i => match evV x, evV i with
    | some ⟨f⟩, some ⟨g⟩ => .val fun tm s => valOf (opIndex C t (some (f tm)) (some (g tm)) s)
    | _, _ => .slow
  | o => .eff fun tm s => effOf (aop1 C o tm s)

noncomputable def onGuard {β : Type} (g : Option AVal) (want : Bool) (no skip : β) (go : β) : β :=
  Option.rec no (fun v => v.sw no (fun b => Bool.rec (Bool.rec go skip want) (Bool.rec skip go want) b) (fun _ _ => no) (fun _ => no) (fun _ _ => no) (fun _ _ _ _ _ => no) (fun l => List.rec skip (fun _ _ _ => no) l)) g
noncomputable def dec (ops : Array Oper) (o : Oper) : Dec :=
  match o.guard with
  | none => match decOp C o.op with
    | .val f => match o.dst with
      | some d => strictN d fun d => .val d f
      | none => .slow
    | .eff f => match o.dst with
      | some d => strictN d fun d => .eff (some d) f
      | none => .eff none f
    | .slow => .slow
  | some (j, want) => match ops[j]? with
    | some p => match p.dst with
      | some g => strictN g fun g => match decOp C o.op with
        | .val f => match o.dst with
          | some d => strictN d fun d => .val d fun tm s => onGuard (tm.getB (Nat.succ g)) want none (some (.tuple [])) (f tm s)
          | none => .slow
        | .eff f => match o.dst with
          | some d => strictN d fun d => .eff (some d) fun tm s => onGuard (tm.getB (Nat.succ g)) want none (some (.tuple [], s)) (f tm s)
          | none => .eff none fun tm s => onGuard (tm.getB (Nat.succ g)) want none (some (.tuple [], s)) (f tm s)
        | .slow => .slow
      | none => .slow
    | none => .slow

noncomputable def runOps {β : Type} (ops : Array Oper) (l : List Oper) : Nat → Tr AVal → St → (List Oper → Tr AVal → St → β) → β :=
  List.rec (fun _ tm st k => k [] tm st) (fun o r ih nt tm st k =>
    Dec.rec
      (fun d f => Option.rec (k (o :: r) tm st) (fun v => Bool.rec (k (o :: r) tm st) (v.forceF fun v => tm.setB (Nat.succ d) v fun tm => ih nt tm st k) (Nat.ble (Nat.succ d) nt)) (f tm st))
      (fun d f => Option.rec (k (o :: r) tm st) (fun p => Prod.rec (fun v st' => Option.rec (ih nt tm st' k) (fun d => Bool.rec (k (o :: r) tm st) (v.forceF fun v => tm.setB (Nat.succ d) v fun tm => ih nt tm st' k) (Nat.ble (Nat.succ d) nt)) d) p) (f tm st))
      (k (o :: r) tm st)
      (dec C ops o)) l

noncomputable def nth {α : Type} (l : List α) (i : Nat) : Option α := List.rec (motive := fun _ => Nat → Option α) (fun _ => none) (fun x _ ih i => Nat.rec (some x) (fun j _ => ih j) i) l i
noncomputable def snoc {β : Type} (l : List Nat) (n : Nat) : (List Nat → β) → β := List.rec (fun k => k [n]) (fun x _ ih k => ih fun r => k (x :: r)) l
noncomputable def afterN (acc : List Nat) : List Edge → Nat → Nat
  | [], s => s
  | e :: r, s => match Region.binds .any e with
    | true => strictN (s ||| 2 ^ e.on ||| Option.rec 0 (fun w => w) (nth acc e.on)) fun s => afterN acc r s
    | false => afterN acc r s
/-- Region.before, by lists -/
noncomputable def beforeL {β : Type} : List Oper → List Nat → (List Nat → β) → β
  | [], acc, k => k acc
  | o :: r, acc, k => strictN (afterN acc o.after.toList 0) fun n => snoc acc n fun acc => beforeL r acc k
noncomputable def firstQuietF (bf : List Nat) (done : Nat) : List (Nat × Oper) → Option (Nat × Oper)
  | [] => none
  | p :: r => match active p.2.op with
    | true => firstQuietF bf done r
    | false => match nth bf p.1 with
      | some w => match Nat.beq (w &&& done) w with
        | true => some p
        | false => firstQuietF bf done r
      | none => none
structure Ctx where
  fn : FuncId
  nt : Nat
  defers : List ADef
  deferred : Bool
  roundOf : Option Nat
  callers : List AFr
noncomputable def Ctx.am (x : Ctx) (todo : List AItem) (tm : Tr AVal) (st : St) : AM :=
  Ctx.rec (motive := fun _ => List AItem → Tr AVal → St → AM) (fun fn nt defers deferred roundOf callers todo tm st => ⟨⟨fn, tm, nt, todo, defers, .run, deferred, roundOf⟩, callers, st⟩) x todo tm st

inductive DC where
  | ops (ops : Array Oper) (l : List Oper) (rest : Option Code)
  | seq (a b : Code)
  | cond (f : Tr AVal → AVal) (a b : Code)
  | push (i : AItem) (b : Code)
  | skip
  | exit (id : Nat)
  | draw (i : AItem) (rest : Option Code)
  | ret
  | slow
noncomputable def decC (c : Code) : DC :=
  match c with
  | .region _ ops false => .ops ops ops.toList none
  | .seq (.region _ ops false) b => .ops ops ops.toList (some b)
  | .region _ ops true => beforeL ops.toList [] fun bf => match regOk ops bf (enum 0 ops.toList) with
    | true => .draw (.inDraw ops bf 0 (enum 0 ops.toList) none) none
    | false => .slow
  | .seq a b => .seq a b
  | .cond c a b => match evV c with | some ⟨f⟩ => .cond f a b | none => .slow
  | .block id b => .push (.inBlock id) b
  | .loop b => .push (.inLoop b) b
  | .scope b => .push (.inScope b) b
  | .skip => .skip
  | .label _ => .skip
  | .exit id => .exit id
  | .ret => .ret
  | _ => .slow

/-- a list without the one of number i -/
noncomputable def without {β : Type} (i : Nat) (l : List (Nat × Oper)) : (List (Nat × Oper) → β) → β :=
  List.rec (fun k => k []) (fun x _ ih k => Bool.rec (ih fun r => k (x :: r)) (ih k) (Nat.beq x.1 i)) l
/-- is there no read that must be looked at again? -/
def noReads (bj done j : Nat) : List (Nat × Oper) → Bool
  | [] => true
  | (i, o) :: r => match done.testBit i && !(bj.testBit i) && !(Nat.beq i j) && quietRead o.op with
    | true => false
    | false => noReads bj done j r
def sameDst (p : Option Oper) (o : Oper) : Bool := match p with
  | some p => match p.dst, o.dst with
    | some a, some b => Nat.beq a b
    | none, none => true
    | _, _ => false
  | none => false
inductive DD where
  | quiet (d : Nat) (f : Tr AVal → St → Option AVal) (i : AItem)
  | eff (d : Option Nat) (f : Tr AVal → St → Option (AVal × St)) (i : AItem)
  | pass (i : AItem)
  | fin
  | slow
noncomputable def decD (ops : Array Oper) (bf : List Nat) (done : Nat) (rest : List (Nat × Oper)) (pend : Option Nat) : DD :=
  match pend with
  | none => match firstQuietF bf done rest with
    | some (i, o) => match dec C ops o with
      | .val d f => strictN (done ||| 2 ^ i) fun dn => without i rest fun r => .quiet d f (.inDraw ops bf dn r none)
      | .eff (some d) f => strictN (done ||| 2 ^ i) fun dn => without i rest fun r => .eff (some d) f (.inDraw ops bf dn r none)
      | _ => .slow
    | none => match rest with
      | [] => .fin
      | (i, o) :: r => match bf[i]? with
        | some w => match Nat.beq (w &&& done) w && r.all (fun x => !(active x.2.op) || (match bf[x.1]? with | some w => w.testBit i | none => false)) with
          | true => match sameDst ops[i]? o with
            | true => match dec C ops o with
              | .val d f => strictN (done ||| 2 ^ i) fun dn => .quiet d f (.inDraw ops bf dn r (some i))
              | .eff d f => strictN (done ||| 2 ^ i) fun dn => .eff d f (.inDraw ops bf dn r (some i))
              | .slow => .slow
            | false => .slow
          | false => .slow
        | none => .slow
  | some j => match bf[j]? with
    | some bj => match done.testBit j && noReads bj done j (enum 0 ops.toList) with
      | true => .pass (.inDraw ops bf done rest none)
      | false => .slow
    | none => .slow

abbrev Loop := Ctx → List AItem → Tr AVal → St → Option SR
section
variable (big : Big)
noncomputable def slowF (x : Ctx) (todo : List AItem) (tm : Tr AVal) (st : St) : Option SR := step C big (x.am todo tm st)
noncomputable def Ctx.ntOf (x : Ctx) : Nat := Ctx.rec (fun _ nt _ _ _ _ => nt) x
noncomputable def restOf (rest : Option Code) (k : List AItem) : List AItem := Option.rec k (fun b => .code b :: k) rest
/-- a step over a map: here the ways part; it is taken by itself -/
noncomputable def isNext (o : Oper) : Bool := match o.op with | .next _ false => true | _ => false
inductive DK where
  | call (f : FuncId) (args : List EvV) (body : Code) (nt : Nat)
  | next
  | slow
noncomputable def evVs : List Operand → Option (List EvV)
  | [] => some []
  | x :: r => match evV x, evVs r with | some f, some l => some (f :: l) | _, _ => none
noncomputable def decK (o : Oper) : DK :=
  match isNext o with
  | true => .next
  | false => match o.guard with
    | some _ => .slow
    | none => match o.op with
      | .call c => match c.callee with
        | .value (.func f) => match evVs c.args.toList with
          | some l => match C.fns.get f with
            | some fn => match fn.body with
              | some b => strictN f fun f => strictN (l.length + (fn.ntmps - l.length)) fun nt => .call f l b nt
              | none => .slow
            | none => .slow
          | none => .slow
        | _ => .slow
      | _ => .slow
/-- arguments, forced, one behind the other -/
noncomputable def argsK {β : Type} (tm : Tr AVal) (l : List EvV) : (List AVal → β) → β :=
  List.rec (fun k => k []) (fun e _ ih k => EvV.rec (fun f => (f tm).forceF fun v => ih fun r => k (v :: r)) e) l
noncomputable def Ctx.frame (x : Ctx) (todo : List AItem) (tm : Tr AVal) : AFr :=
  Ctx.rec (motive := fun _ => List AItem → Tr AVal → AFr) (fun fn nt defers deferred roundOf _ todo tm => ⟨fn, tm, nt, todo, defers, .run, deferred, roundOf⟩) x todo tm
noncomputable def Ctx.above (x : Ctx) : List AFr := Ctx.rec (fun _ _ _ _ _ c => c) x
noncomputable def noneB {α : Type} (o : Option α) : Bool := Option.rec true (fun _ => false) o
noncomputable def callF (ih : Loop) (f : FuncId) (l : List EvV) (body : Code) (nt : Nat) (slow : Option SR) (todo : List AItem) (x : Ctx) (tm : Tr AVal) (st : St) : Option SR :=
  argsK tm l fun args => Bool.rec slow (Tr.leaf.setList 0 args fun tm' => ih ⟨f, nt, [], false, none, x.frame todo tm :: x.above⟩ [.code body] tm' st) (noneB (big f args st))
noncomputable def slowO (_ih : Loop) (x : Ctx) (ops : Array Oper) (o : Oper) (r : List Oper) (k : List AItem) (tm : Tr AVal) (st : St) : Option SR :=
  DK.rec
    (fun _ _ _ _ => slowF C big x (.inReg ops (o :: r) :: k) tm st)
    (some (.one (x.am (.inReg ops (o :: r) :: k) tm st)))
    (slowF C big x (.inReg ops (o :: r) :: k) tm st)
    (decK C o)
/-- what a function's results are: slots alone -/
noncomputable def decR : List ResultVar → Option (List EvV)
  | [] => some []
  | x :: r => match x, decR r with
    | .tmp t, some l => strictN t fun t => some (⟨fun tm => Option.rec (.tuple []) (fun v => v) (tm.getB (Nat.succ t))⟩ :: l)
    | _, _ => none
noncomputable def decRs (f : FuncId) : Option (List EvV) := match C.fns.get f with | some fn => decR fn.results.toList | none => none
noncomputable def tupleOf (l : List AVal) : AVal := List.rec (motive := fun _ => AVal) (.tuple []) (fun v r _ => List.rec (motive := fun _ => AVal) v (fun w q _ => .tuple (v :: w :: q)) r) l
/-- a value comes back to a frame that waits in a region -/
noncomputable def backF (ih : Loop) (slow : Option SR) (c : AFr) (rest : List AFr) (v : AVal) (st : St) : Option SR :=
  match c with
  | ⟨fn, tm, nt, .inReg ops (o :: r) :: k, defers, .run, deferred, roundOf⟩ => match o.dst with
    | none => ih ⟨fn, nt, defers, deferred, roundOf, rest⟩ (.inReg ops r :: k) tm st
    | some d => match Nat.ble (Nat.succ d) nt with
      | true => v.forceF fun v => tm.setB (Nat.succ d) v fun tm => ih ⟨fn, nt, defers, deferred, roundOf, rest⟩ (.inReg ops r :: k) tm st
      | false => slow
  | _ => slow
noncomputable def retF (ih : Loop) (slow : Option SR) (x : Ctx) (tm : Tr AVal) (st : St) : Option SR :=
  match x with
  | ⟨fn, _, [], false, none, c :: rest⟩ => match decRs C fn with
    | some l => argsK tm l fun vs => backF ih slow c rest (tupleOf vs) st
    | none => slow
  | _ => slow
noncomputable def opsF (ih : Loop) (ops : Array Oper) (l : List Oper) (k : List AItem) (x : Ctx) (tm : Tr AVal) (st : St) : Option SR :=
  runOps C ops l x.ntOf tm st fun l tm st => List.rec (ih x k tm st) (fun o r _ => slowO C big ih x ops o r k tm st) l
noncomputable def codeF (ih : Loop) (c : Code) (k : List AItem) (x : Ctx) (tm : Tr AVal) (st : St) : Option SR :=
  DC.rec
    (fun ops l rest => opsF C big ih ops l (restOf rest k) x tm st)
    (fun a b => ih x (.code a :: .code b :: k) tm st)
    (fun f a b => (f tm).onBool (slowF C big x (.code c :: k) tm st) fun v => Bool.rec (ih x (.code b :: k) tm st) (ih x (.code a :: k) tm st) v)
    (fun i b => ih x (.code b :: i :: k) tm st)
    (ih x k tm st)
    (fun id => Option.rec (slowF C big x (.code c :: k) tm st) (fun k => ih x k tm st) (exitTo id k))
    (fun i rest => ih x (i :: restOf rest k) tm st)
    (retF C ih (slowF C big x (.code c :: k) tm st) x tm st)
    (slowF C big x (.code c :: k) tm st)
    (decC c)
noncomputable def drawF (ih : Loop) (ops : Array Oper) (bf : List Nat) (dn : Nat) (rest : List (Nat × Oper)) (pend : Option Nat) (k : List AItem) (x : Ctx) (tm : Tr AVal) (st : St) : Option SR :=
  DD.rec
    (fun d f i => Option.rec (slowF C big x (.inDraw ops bf dn rest pend :: k) tm st) (fun v => Bool.rec (slowF C big x (.inDraw ops bf dn rest pend :: k) tm st) (v.forceF fun v => tm.setB (Nat.succ d) v fun tm => ih x (i :: k) tm st) (Nat.ble (Nat.succ d) x.ntOf)) (f tm st))
    (fun d f i => Option.rec (slowF C big x (.inDraw ops bf dn rest pend :: k) tm st) (fun p => Prod.rec (fun v st' => Option.rec (ih x (i :: k) tm st') (fun d => Bool.rec (slowF C big x (.inDraw ops bf dn rest pend :: k) tm st) (v.forceF fun v => tm.setB (Nat.succ d) v fun tm => ih x (i :: k) tm st') (Nat.ble (Nat.succ d) x.ntOf)) d) p) (f tm st))
    (fun i => ih x (i :: k) tm st)
    (ih x k tm st)
    (slowF C big x (.inDraw ops bf dn rest pend :: k) tm st)
    (decD C ops bf dn rest pend)
noncomputable def itemF (ih : Loop) (i : AItem) (k : List AItem) (x : Ctx) (tm : Tr AVal) (st : St) : Option SR :=
  @AItem.rec (fun _ => Loop → List AItem → Ctx → Tr AVal → St → Option SR)
    (fun c ih k x tm st => codeF C big ih c k x tm st)
    (fun _ ih k x tm st => ih x k tm st)
    (fun c ih k x tm st => ih x (.code c :: .inLoop c :: k) tm st)
    (fun _ ih k x tm st => ih x k tm st)
    (fun ops l ih k x tm st => opsF C big ih ops l k x tm st)
    (fun ops bf dn rest pend ih k x tm st => drawF C big ih ops bf dn rest pend k x tm st)
    (fun l _ k x tm st => slowF C big x (.inRange l :: k) tm st)
    (fun l _ k x tm st => slowF C big x (.endRange l :: k) tm st)
    (fun _ k x tm st => slowF C big x (.beginRound :: k) tm st) i ih k x tm st
noncomputable def loopF (n : Nat) : Loop :=
  Nat.rec (fun x todo tm st => some (.one (x.am todo tm st))) (fun _ ih x todo tm st =>
    List.rec (retF C ih (slowF C big x [] tm st) x tm st) (fun i k _ => itemF C big ih i k x tm st) todo) n
noncomputable def atNext (todo : List AItem) : Bool := match todo with
  | .inReg _ (o :: _) :: _ => isNext o
  | _ => false
noncomputable def stepF (m : AM) : Option SR :=
  AM.rec (motive := fun _ => Option SR) (fun cur callers st => AFr.rec (motive := fun _ => List AFr → St → Option SR) (fun fn tm nt todo defers mode deferred roundOf callers st =>
    AMode.rec (Bool.rec (loopF C big 400 ⟨fn, nt, defers, deferred, roundOf, callers⟩ todo tm st) (step C big ⟨⟨fn, tm, nt, todo, defers, .run, deferred, roundOf⟩, callers, st⟩) (atNext todo)) (step C big ⟨⟨fn, tm, nt, todo, defers, .returning, deferred, roundOf⟩, callers, st⟩) mode) cur callers st) m
noncomputable def exploreF (f : FuncId) (h0 : Tr ABlk) (n : Nat) : AM → Option (AVal × St) :=
  Nat.rec (fun _ => none) (fun _ ih m => match stepF C big m with
    | some (.one m) => ih m
    | some (.done g v s) => match Nat.beq g f with | true => some (v, s) | false => none
    | some (.many _) => match atNext m.cur.todo with
      | true => match step C big { m with st := { m.st with log := [] } } with
        | some (.many l) => match mergeF h0 m.st.heap (l.map ih) with
          | some (v, s) => some (v, { s with log := s.log ++ m.st.log })
          | none => none
        | _ => none
      | false => none
    | none => none) n
end
/-! ways of a loop over a map, told by what has been seen alone: what the rounds left behind is forgotten -/
noncomputable def isAggV (v : AVal) : Bool := match v with | .agg _ => true | _ => false
/-- the cells, each of which nothing is known any more -/
noncomputable def forgetC {β : Type} (l : List AVal) : (List AVal → β) → β :=
  List.rec (fun k => k []) (fun x _ ih k => ih fun q => Bool.rec (k (.any :: q)) (k (x :: q)) (isAggV x)) l
noncomputable def forgetK {β : Type} (v : AVal) (k : AVal → β) : β := match v with
  | .agg l => forgetC l fun q => k (.agg q)
  | _ => k .any
noncomputable def forgetL {β : Type} (D : List Nat) : Tr AVal → (Tr AVal → β) → β :=
  List.rec (fun tm k => k tm) (fun d _ ih tm k => forgetK (Option.rec (.tuple []) (fun v => v) (tm.getB (Nat.succ d))) fun v => tm.setB (Nat.succ d) v fun tm => ih tm k) D
noncomputable def insN {β : Type} (x : Nat) (l : List Nat) : (List Nat → β) → β :=
  List.rec (fun k => k [x]) (fun y r ih k => Bool.rec (ih fun q => k (y :: q)) (k (x :: y :: r)) (Nat.ble x y)) l
/-- sorted, without 'since' -/
noncomputable def sortN {β : Type} (since : Nat) (l : List Nat) : (List Nat → β) → β :=
  List.rec (fun k => k []) (fun x _ ih k => Bool.rec (ih fun q => strictN x fun x => insN x q k) (ih k) (Nat.beq x since)) l
/-- the blocks that were made since the loop began -/
noncomputable def young (h0 : Tr ABlk) (base : Nat) : List (Nat × ABlk) → List Nat → Option (List Nat)
  | [], acc => some acc
  | (b, _) :: r, acc => match Nat.ble b base || acc.any (Nat.beq b) with
    | true => young h0 base r acc
    | false => match h0.getB (Nat.succ b) with
      | none => young h0 base r (b :: acc)
      | some _ => none
/-- what is forgotten at the head of a loop over a map -/
noncomputable def canonK {β : Type} (canon : List (FuncId × List Nat)) (lo : Nat) (h0 : Tr ABlk) (m : AM) (no : β) (k : AM → List (Nat × ABlk) → β) : β :=
  match m with
  | ⟨⟨fn, tm, nt, .inReg ops (o :: r) :: kk, [], .run, false, none⟩, [], ⟨h, _, log⟩⟩ => match canon.find? (fun p => Nat.beq p.1 fn), o.op with
    | some (_, D), .next it false => match eval tm it with
      | some (.iter i) => match h.getB (Nat.succ i), Nat.ble lo i with
        | some (.miter (some mp) since seen base), true => match young h0 base log [] with
          | some ks => kill ks h [] fun h lg => match h.getB (Nat.succ i) with
            | some (.miter _ _ _ _) => sortN since seen fun q => strictN since fun since => strictN base fun base => strictN mp fun mp => strictN fn fun fn => strictN nt fun nt =>
              h.setB (Nat.succ i) (.miter (some mp) since (q ++ [since]) base) fun h =>
              forgetL D tm fun tm => k ⟨⟨fn, tm, nt, .inReg ops (o :: r) :: kk, [], .run, false, none⟩, [], ⟨h, base, []⟩⟩ ((i, .miter (some mp) since (q ++ [since]) base) :: lg)
            | _ => no
          | none => no
        | _, _ => no
      | _ => no
    | _, _ => no
  | _ => no
section
variable (big : Big)
noncomputable def forkRun (f : FuncId) (h0 : Tr ABlk) (ih : AM → Option (AVal × St)) (m : AM) : Option (AVal × St) :=
  match step C big m with
  | some (.many l) => mergeF h0 m.st.heap (l.map ih)
  | some (.one m) => ih m
  | some (.done g v s) => match Nat.beq g f with | true => some (v, s) | false => none
  | none => none
noncomputable def innerC (f : FuncId) (h0 : Tr ABlk) (ihd : AM → Option (AVal × St)) (n : Nat) : AM → Option (AVal × St) :=
  Nat.rec (motive := fun _ => AM → Option (AVal × St)) (fun _ => none) (fun _ ih m => match stepF C big m with
    | some (.one m) => ih m
    | some (.done g v s) => match Nat.beq g f with | true => some (v, s) | false => none
    | some (.many _) => match atNext m.cur.todo with
      | true => canonK C.canon C.lo h0 m none fun m' lg => match forkRun C big f h0 ihd m' with
        | some (v, s) => strictN (Nat.add s.next 8192) fun n => some (v, { s with next := n, log := s.log ++ (lg ++ m.st.log) })
        | none => none
      | false => none
    | none => none) n
noncomputable def exploreC (f : FuncId) (h0 : Tr ABlk) (N : Nat) (d : Nat) : AM → Option (AVal × St) :=
  Nat.rec (fun _ => none) (fun _ ihd m => innerC C big f h0 ihd N m) d
end
noncomputable def memoGetF (f : FuncId) (args : List AVal) (s : St) : List Memo → Option AVal
  | [] => none
  | m :: r => match Nat.beq m.fn f with
    | true => match matchArgs [] m.args args with
      | some ρ => match matchBlks ρ s m.blks with
        | some ρ => match ρ.all fun p => m.blks.any fun q => Nat.beq q.1 p.1 with
          | true => some m.res
          | false => memoGetF f args s r
        | none => memoGetF f args s r
      | none => memoGetF f args s r
    | false => memoGetF f args s r
noncomputable def bigLF (fuel : Nat) (lvl : Nat) : Big :=
  Nat.rec (motive := fun _ => Big) (fun _ _ _ => none) (fun _ ih f args s =>
    match memoGetF f args s C.memo with
    | some v => some (some (v, s))
    | none => match C.forky.any (Nat.beq f) with
      | true => match enterFr C f args false none fun fr => exploreC C ih f s.heap fuel 16 { cur := fr, callers := [], st := { s with log := [] } } with
        | some (v, s') => some (some (v, { heap := s'.heap, next := s'.next, log := s'.log ++ s.log }))
        | none => some none
      | false => none) lvl
noncomputable def callRunF (lvl fuel : Nat) (f : FuncId) (args : List AVal) (blks : List (Nat × ABlk)) : Option AVal :=
  match enterFr C f args false none fun fr => exploreC C (bigLF C fuel lvl) f (blksTr blks .leaf) fuel 16 { cur := fr, callers := [], st := { heap := blksTr blks .leaf, next := C.lo, log := [] } } with
  | some (v, _) => some v
  | none => none
/-- a value without addresses -/
def freeV : Nat → AVal → Bool
  | 0, _ => false
  | n + 1, v => match v with
    | .bool _ | .int _ _ | .str _ | .nilptr | .nilslice | .nilmap | .nilfunc | .niliface => true
    | .agg l => l.all (freeV n)
    | .tuple l => l.all (freeV n)
    | _ => false
end
end Go.AM
