/-
  The abstract evaluator: the model's code over named blocks, in a form that the kernel computes. No conditions beyond the theorems' own.
-/
import GoSem.Dispatch
import GoSem.Core.Machine
namespace Go.AE
noncomputable section

/-! names: binary numbers; tries over them -/
inductive Pos where
  | h
  | o (p : Pos)
  | i (p : Pos)
  deriving DecidableEq, Inhabited

def Pos.succ : Pos → Pos
  | .h => .o .h
  | .o p => .i p
  | .i p => .o p.succ

def Pos.beq : Pos → Pos → Bool
  | .h, .h => true
  | .o p, .o q => p.beq q
  | .i p, .i q => p.beq q
  | _, _ => false

def Pos.ofNatF : Nat → Nat → Pos
  | 0, _ => .h
  | f + 1, n => match Nat.ble n 1 with
    | true => .h
    | false => match Nat.beq (n % 2) 0 with
      | true => .o (ofNatF f (n / 2))
      | false => .i (ofNatF f (n / 2))

/-- the name of a number: of n + 1 in binary -/
def nm (n : Nat) : Pos := Pos.ofNatF (n + 1) (n + 1)

inductive Tr (α : Type) where
  | nil
  | node (l : Tr α) (v : α) (r : Tr α)
  deriving Inhabited

noncomputable def Tr.get {α : Type} (d : α) (t : Tr α) : Pos → α :=
  Tr.rec (motive := fun _ => Pos → α) (fun _ => d) (fun _ v _ gl gr k => Pos.rec (motive := fun _ => α) v (fun k _ => gl k) (fun k _ => gr k) k) t

noncomputable def Tr.one {α : Type} (d : α) (k : Pos) : α → Tr α :=
  Pos.rec (motive := fun _ => α → Tr α) (fun x => .node .nil x .nil) (fun _ f x => .node (f x) d .nil) (fun _ f x => .node .nil d (f x)) k

noncomputable def Tr.set {α : Type} (d : α) (t : Tr α) : Pos → α → Tr α :=
  Tr.rec (motive := fun _ => Pos → α → Tr α) (fun k x => Tr.one d k x)
    (fun l v r sl sr k x => Pos.rec (motive := fun _ => Tr α) (.node l x r) (fun k _ => .node (sl k x) v r) (fun k _ => .node l v (sr k x)) k) t

inductive V where
  | bool (b : Bool)
  | int (k : IntKind) (n : Int)
  | str (s : ByteArray)
  | ptr (b : Pos) (off : Nat)
  | nilp
  | slice (b : Pos) (off len : Nat) (cap : Option Nat)
  | nilsl
  | map (r : Pos)
  | nilmap
  | chan (r : Pos)
  | nilchan
  | func (fn : Fn) (first capt : List V)
  | yield (l : Pos)
  | nilfn
  | iface (t : TypeId) (v : V)
  | nilif
  | agg (cs : List V)
  | tuple (vs : List V)
  | junk
  deriving Inhabited

def undef : V := .tuple []

inductive D where
  | collected (r : Pos)
  | round
  deriving Inhabited

structure Lp where
  st : LoopState
  pending : Option Code
  nt : Nat
  tmps : Tr V
  params : List Tmp
  assign : Code
  body : Code
  defers : Pos
  deriving Inhabited

inductive O where
  | cells (cs : List V) (elem : TypeId) (esz : Option Nat) (fz : Nat) (ro : Bool)
  | map (es : List (V × V × Nat)) (clock : Nat)
  | chan (cap : Nat) (buf : List V) (closed : Bool) (sent rcvd : Nat)
  | siter (s : ByteArray) (pos : Nat)
  | miter (m : Option Pos) (since : Nat) (seen : List Nat) (stepped : Nat)
  | loop (l : Lp)
  | defd (here : Bool)
  | dead
  deriving Inhabited

structure H where
  nx : Pos
  t : Tr O
  deriving Inhabited

noncomputable def H.get (h : H) (b : Pos) : O := H.rec (motive := fun _ => O) (fun _ t => t.get .dead b) h
noncomputable def H.put (h : H) (b : Pos) (o : O) : H := H.rec (motive := fun _ => H) (fun n t => ⟨n, t.set .dead b o⟩) h
def O.live : O → Bool
  | .dead => false
  | _ => true

/-- a value and the heap behind it; ask: which one of n the run takes is open -/
inductive R where
  | fail
  | ok (v : V) (h : H)
  | ask (n : Nat) (k : Nat → R)
  deriving Inhabited

inductive Ex where
  | normal
  | exit (id : Nat)
  | goto (l : Nat)
  | ret
  deriving Inhabited

/-- the end of a piece of code -/
inductive E where
  | fail
  | ok (e : Ex) (t : Tr V) (ds : List D) (h : H)
  | ask (n : Nat) (k : Nat → E)
  deriving Inhabited

noncomputable def R.bindE (f : V → H → E) (r : R) : E := R.rec (motive := fun _ => E) .fail f (fun n _ ih => .ask n ih) r
noncomputable def R.bind (f : V → H → R) (r : R) : R := R.rec (motive := fun _ => R) .fail f (fun n _ ih => .ask n ih) r
noncomputable def E.bind (f : Ex → Tr V → List D → H → E) (e : E) : E := E.rec (motive := fun _ => E) .fail f (fun n _ ih => .ask n ih) e
noncomputable def E.bindR (f : Ex → Tr V → List D → H → R) (e : E) : R := E.rec (motive := fun _ => R) .fail f (fun n _ ih => .ask n ih) e

def R.ofV (h : H) : Option V → R
  | some v => .ok v h
  | none => .fail
def R.ofH (v : V) : Option H → R
  | some h => .ok v h
  | none => .fail

/-- how the value of a new block's operation is made of its name -/
inductive Mk where
  | ptr
  | slice (len : Nat) (cap : Option Nat)
  | map
  | chan
  deriving Inhabited
def Mk.val : Mk → Pos → V
  | .ptr, b => .ptr b 0
  | .slice len cap, b => .slice b 0 len cap
  | .map, b => .map b
  | .chan, b => .chan b
structure Al where
  o : O
  m : Mk
  deriving Inhabited
noncomputable def newR (h : H) (a : Al) : R := H.rec (motive := fun _ => R) (fun n t => .ok (a.m.val n) ⟨n.succ, t.set .dead n a.o⟩) h
def newO (h : H) : Option Al → R
  | some a => newR h a
  | none => .fail

inductive Ext where
  | noEscape
  | makeNoZero (elem : TypeId)
  | indexByte
  | count
  deriving Inhabited

structure Ctx where
  P : Program
  fn : FuncId → Option Func
  ext : FuncId → Option Ext
  gl : Nat → Bool
  hook : FuncId → Option (List V → H → R)

/-! constants -/
def mapO {α β : Type} (f : α → Option β) : List α → Option (List β)
  | [] => some []
  | x :: xs => match f x with
    | some y => match mapO f xs with
      | some ys => some (y :: ys)
      | none => none
    | none => none

def ofValue : Nat → Value → Option V
  | 0, _ => none
  | n + 1, v => match v with
    | .bool b => some (.bool b)
    | .int k n => some (.int k n)
    | .string s => some (.str s)
    | .pointer none => some .nilp
    | .slice none 0 0 => some .nilsl
    | .map none => some .nilmap
    | .chan none => some .nilchan
    | .nilFunc => some .nilfn
    | .nilIface => some .nilif
    | .func (.func f) ⟨[]⟩ ⟨[]⟩ => some (.func (.func f) [] [])
    | .agg cs => match mapO (ofValue n) cs.toList with
      | some l => some (.agg l)
      | none => none
    | .tuple cs => match mapO (ofValue n) cs.toList with
      | some l => some (.tuple l)
      | none => none
    | .iface t v => match ofValue n v with
      | some v => some (.iface t v)
      | none => none
    | _ => none

def V.cells : V → List V
  | .agg cs => cs
  | v => [v]

/-- run of a Sem that only asks for the program -/
def pureRun {α : Type} (P : Program) : Sem α → Option α
  | .pure a => some a
  | .program k => pureRun P (k P)
  | _ => none

def und (C : Ctx) (t : TypeId) : Option TypeDesc := C.P.underlying t
def inf (C : Ctx) (t : TypeId) : Option TypeInfo := C.P.info? t
def szOf (C : Ctx) (t : TypeId) : Option Nat := match C.P.info? t with
  | some i => some i.size
  | none => none
/-- the size of a struct's or an array's row of cells; none of them: one cell -/
inductive Shp where
  | bad
  | row (n : Nat)
  | cell
def shp (C : Ctx) (t : TypeId) : Shp := match und C t with
  | some (.struct _) | some (.array _ _) => match szOf C t with
    | some n => .row n
    | none => .bad
  | some _ => .cell
  | none => .bad
def zeroV (C : Ctx) (t : TypeId) : Option V := match C.P.info? t with
  | some i => match i.zero with
    | some z => ofValue 4 z
    | none => none
  | none => none
def elemOf (C : Ctx) (t : TypeId) : Option TypeId := match und C t with
  | some (.slice e) => some e
  | _ => none

noncomputable def getT (t : Tr V) (i : Nat) : V := t.get undef (nm i)

noncomputable def opd (C : Ctx) (t : Tr V) (x : Operand) : Option V :=
  Operand.rec (motive := fun _ => Option V) (fun i => some (getT t i)) (fun v => ofValue 4 v)
    (fun g => Bool.rec (motive := fun _ => Option V) none (some (.ptr (nm g) 0)) (C.gl g)) (fun f => some (.func (.func f) [] [])) x

def opds (C : Ctx) (t : Tr V) : List Operand → Option (List V)
  | [] => some []
  | x :: xs => match opd C t x with
    | some v => match opds C t xs with
      | some vs => some (v :: vs)
      | none => none
    | none => none

/-! cells -/
def takeL : Nat → List V → Option (List V)
  | 0, _ => some []
  | _ + 1, [] => none
  | n + 1, c :: cs => match takeL n cs with
    | some l => some (c :: l)
    | none => none

def dropL : Nat → List V → List V
  | 0, l => l
  | _ + 1, [] => []
  | n + 1, _ :: l => dropL n l

def nthL : List V → Nat → Option V
  | [], _ => none
  | c :: _, 0 => some c
  | _ :: cs, n + 1 => nthL cs n

def partL (C : Ctx) (t : TypeId) (cs : List V) (off : Nat) : Option V :=
  match shp C t with
  | .row n => match takeL n (dropL off cs) with
    | some l => some (.agg l)
    | none => none
  | .cell => nthL cs off
  | .bad => none

def cellsAt (h : H) (b : Pos) : Option (List V) := match h.get b with
  | .cells cs _ _ _ _ => some cs
  | _ => none

def loadL (C : Ctx) (h : H) (t : TypeId) (b : Pos) (off : Nat) : Option V :=
  match cellsAt h b with
  | some cs => partL C t cs off
  | none => none

def writeHere : List V → List V → Option (List V)
  | cs, [] => some cs
  | [], _ :: _ => none
  | _ :: cs, v :: vs => match writeHere cs vs with
    | some l => some (v :: l)
    | none => none

def writeL : List V → Nat → List V → Option (List V)
  | cs, 0, vs => writeHere cs vs
  | [], _ + 1, _ => none
  | c :: cs, n + 1, vs => match writeL cs n vs with
    | some l => some (c :: l)
    | none => none

def okCell : V → Bool
  | .agg _ | .tuple _ | .junk => false
  | _ => true
def okCells : List V → Bool
  | [] => true
  | c :: cs => match okCell c with
    | true => okCells cs
    | false => false

def storeL (h : H) (b : Pos) (off : Nat) (vs : List V) : Option H :=
  match h.get b with
  | .cells cs e g fz false => match okCells vs with
    | true => match Nat.ble fz off with
      | true => match writeL cs off vs with
        | some cs' => some (h.put b (.cells cs' e g fz false))
        | none => none
      | false => none
    | false => none
  | _ => none

def fillL (place : Nat → Option (Nat × Nat)) : List V → List (Nat × V) → Option (List V)
  | cs, [] => some cs
  | cs, (i, v) :: rest => match place i with
    | none => none
    | some (off, size) => match Nat.beq v.cells.length size with
      | true => match writeL cs off v.cells with
        | some cs' => fillL place cs' rest
        | none => none
      | false => none

def repl : Nat → List V → List V
  | 0, _ => []
  | n + 1, z => z ++ repl n z

/-! integers -/
def bitsN : IntKind → Nat
  | .i8 | .u8 => 256
  | .i16 | .u16 => 65536
  | .i32 | .u32 => 4294967296
  | .i64 | .u64 => 18446744073709551616
def wrapF (k : IntKind) (n : Int) : Int := match k, n with
  | .i64, .ofNat m => match Nat.ble m 9223372036854775807 with
    | true => .ofNat m
    | false => k.wrap n
  | .i64, .negSucc m => match Nat.ble m 9223372036854775807 with
    | true => .negSucc m
    | false => k.wrap n
  | .u8, .ofNat m => .ofNat (m % 256)
  | .u16, .ofNat m => .ofNat (m % 65536)
  | .u32, .ofNat m => .ofNat (m % 4294967296)
  | .u64, .ofNat m => .ofNat (m % 18446744073709551616)
  | k, n => k.wrap n
def ltI : Int → Int → Bool
  | .ofNat a, .ofNat b => Nat.blt a b
  | .ofNat _, .negSucc _ => false
  | .negSucc _, .ofNat _ => true
  | .negSucc a, .negSucc b => Nat.blt b a
def eqI : Int → Int → Bool
  | .ofNat a, .ofNat b => Nat.beq a b
  | .negSucc a, .negSucc b => Nat.beq a b
  | _, _ => false
def eqK : IntKind → IntKind → Bool
  | .i8, .i8 | .i16, .i16 | .i32, .i32 | .i64, .i64 | .u8, .u8 | .u16, .u16 | .u32, .u32 | .u64, .u64 => true
  | _, _ => false
def natI : Int → Option Nat
  | .ofNat n => some n
  | .negSucc _ => none
def natOf : V → Option Nat
  | .int _ n => natI n
  | _ => none

/-! equality -/
def eqBytes : List UInt8 → List UInt8 → Bool
  | [], [] => true
  | a :: as, b :: bs => match Nat.beq a.toNat b.toNat with
    | true => eqBytes as bs
    | false => false
  | _, _ => false
def eqB : Bool → Bool → Bool
  | true, b => b
  | false, true => false
  | false, false => true
/-- the kinds of cell that are compared, with their places -/
inductive Kd where
  | b
  | i
  | s
def eqCell : Kd → V → V → Option Bool
  | .i, .int k a, .int k' b => match eqK k k' with
    | true => some (eqI a b)
    | false => none
  | .b, .bool a, .bool b => some (eqB a b)
  | .s, .str a, .str b => some (eqBytes a.data.toList b.data.toList)
  | _, _, _ => none
def eqCells : List Kd → List V → List V → Option Bool
  | [], [], [] => some true
  | k :: ks, a :: as, b :: bs => match eqCell k a b with
    | some true => eqCells ks as bs
    | some false => some false
    | none => none
  | _, _, _ => none

/-- the cells that an equality at a type compares, in its order: none where it is not known -/
def flat (P : Program) : Nat → TypeId → Nat → Option (List (Nat × Kd))
  | 0, _, _ => none
  | n + 1, t, off => match P.underlying t with
    | some .bool => oneC (P.cellsOf t) off .b
    | some (.int _) => oneC (P.cellsOf t) off .i
    | some .string => oneC (P.cellsOf t) off .s
    | some (.struct fs) => match P.stoodInHeld t with
      | true => none
      | false => flatF (P.cellsOf t) (fun f => flat P n f.type (off + f.offset)) P.cellsOf fs.toList
    | some (.array len e) => match P.info? e with
      | some i => match Nat.ble (len * i.size) (P.cellsOf t) with
        | true => flatA (fun k => flat P n e (off + k * i.size)) len 0
        | false => none
      | none => none
    | _ => none
  where
  oneC (n off : Nat) (k : Kd) : Option (List (Nat × Kd)) := match Nat.beq n 1 with
    | true => some [(off, k)]
    | false => none
  flatF (s : Nat) (g : Field → Option (List (Nat × Kd))) (z : TypeId → Nat) : List Field → Option (List (Nat × Kd))
    | [] => some []
    | f :: fs => match f.name == "_", Nat.ble (f.offset + z f.type) s with
      | false, true => match g f, flatF s g z fs with
        | some a, some b => some (a ++ b)
        | _, _ => none
      | _, _ => none
  flatA (g : Nat → Option (List (Nat × Kd))) : Nat → Nat → Option (List (Nat × Kd))
    | 0, _ => some []
    | n + 1, k => match g k, flatA g n (k + 1) with
      | some a, some b => some (a ++ b)
      | _, _ => none
def inRow : List (Nat × Kd) → Nat → Option (List Kd)
  | [], _ => some []
  | (i, k) :: l, n => match Nat.beq i n with
    | true => match inRow l (n + 1) with
      | some ks => some (k :: ks)
      | none => none
    | false => none
def kinds (P : Program) (t : TypeId) : Option (List Kd) := match flat P 8 t 0 with
  | some l => inRow l 0
  | none => none
def eqAgg (P : Program) (t : TypeId) (xs ys : List V) : Option Bool := match kinds P t, P.eqGuardType P.depth t with
  | some ks, false => eqCells ks xs ys
  | _, _ => none

def eqV (C : Ctx) (t : TypeId) (x y : V) : Option Bool := match und C t with
  | some .bool => match x, y with
    | .bool a, .bool b => some (eqB a b)
    | _, _ => none
  | some (.struct _) => match x, y with
    | .agg xs, .agg ys => eqAgg C.P t xs ys
    | _, _ => none
  | some (.array _ _) => match x, y with
    | .agg xs, .agg ys => eqAgg C.P t xs ys
    | _, _ => none
  | some (.pointer e) => match x, y with
    | .nilp, .nilp => some true
    | .nilp, .ptr _ _ => some false
    | .ptr _ _, .nilp => some false
    | .ptr a i, .ptr b j => match szOf C e, a.beq b with
      | some (_ + 1), true => some (Nat.beq i j)
      | _, _ => none
    | _, _ => none
  | some (.slice _) => match x, y with
    | .nilsl, .nilsl => some true
    | .nilsl, .slice .. => some false
    | .slice .., .nilsl => some false
    | _, _ => none
  | some (.map _ _) => match x, y with
    | .nilmap, .nilmap => some true
    | .nilmap, .map _ => some false
    | .map _, .nilmap => some false
    | _, _ => none
  | some (.chan _ _) => match x, y with
    | .nilchan, .nilchan => some true
    | .nilchan, .chan _ => some false
    | .chan _, .nilchan => some false
    | _, _ => none
  | some (.func _ _ _) => match x, y with
    | .nilfn, .nilfn => some true
    | .nilfn, .func .. => some false
    | .func .., .nilfn => some false
    | _, _ => none
  | some (.interface _) => match x, y with
    | .nilif, .iface .. => some false
    | .iface .., .nilif => some false
    | .iface t a, .iface u b => match Nat.beq t u with
      | false => some false
      | true => match und C t, inf C t with
        | some (.int _), some i => match i.comparable, a, b with
          | true, .int k x, .int k' y => eqCell .i (.int k x) (.int k' y)
          | _, _, _ => none
        | _, _ => none
    | _, _ => none
  | _ => none

def some' (b : Bool) : Option V := some (.bool b)

def arith (C : Ctx) (op : BinOp) (k : IntKind) (a b : Int) : Option V := match op with
  | .add => some (.int k (wrapF k (a + b)))
  | .sub => some (.int k (wrapF k (a - b)))
  | .mul => some (.int k (wrapF k (a * b)))
  | .quo => match eqI b 0 with
    | true => none
    | false => some (.int k (wrapF k (a.tdiv b)))
  | .rem => match eqI b 0 with
    | true => none
    | false => some (.int k (a.tmod b))
  | .eql => some' (eqI a b)
  | .neq => some' (!(eqI a b))
  | .lss => some' (ltI a b)
  | .leq => some' (!(ltI b a))
  | .gtr => some' (ltI b a)
  | .geq => some' (!(ltI a b))
  | op => match pureRun C.P (Op.intBits op k a b) with
    | some v => ofValue 1 v
    | none => none
def shiftV (op : BinOp) (k : IntKind) (a b : Int) : Option V := match natI b with
  | none => none
  | some n => match op with
    | .shl => some (.int k (wrapF k (a * 2 ^ (min n k.bits))))
    | .shr => some (.int k (a.fdiv (2 ^ (min n k.bits))))
    | _ => none
def intV (C : Ctx) (op : BinOp) (k : IntKind) (a : Int) (k' : IntKind) (b : Int) : Option V := match op with
  | .shl => shiftV .shl k a b
  | .shr => shiftV .shr k a b
  | op => match eqK k k' with
    | true => arith C op k a b
    | false => none
def strV (C : Ctx) (op : BinOp) (a b : ByteArray) : Option V := match op with
  | .add => match Nat.ble (a.size + b.size) 9223372036854775807 with
    | true => some (.str ⟨⟨a.data.toList ++ b.data.toList⟩⟩)
    | false => none
  | .eql => some' (eqBytes a.data.toList b.data.toList)
  | .neq => some' (!(eqBytes a.data.toList b.data.toList))
  | op => match pureRun C.P (Op.stringOp op a b) with
    | some v => ofValue 1 v
    | none => none
def cmpV (C : Ctx) (op : BinOp) (t : TypeId) (x y : V) : Option V := match op with
  | .eql => match eqV C t x y with
    | some b => some' b
    | none => none
  | .neq => match eqV C t x y with
    | some b => some' (!b)
    | none => none
  | _ => none
def binV (C : Ctx) (op : BinOp) (t : TypeId) (x y : V) : Option V :=
  match x with
  | .int k a => match y with
    | .int k' b => intV C op k a k' b
    | _ => none
  | .str a => match y with
    | .str b => strV C op a b
    | _ => none
  | x => cmpV C op t x y

/-! slicing -/
def optNat : Option V → Option (Option Nat)
  | none => some none
  | some v => match natOf v with
    | some n => some (some n)
    | none => none
def leO (n m : Nat) : Option Nat := match Nat.ble n m with
  | true => some n
  | false => none
def bnd3 (lo : Option Nat) (h : Nat) (m : Option Nat) : Option (Nat × Nat × Option Nat) := match lo with
  | none => some (0, h, m)
  | some l => match leO l h with
    | some l => some (l, h, m)
    | none => none
def bnd2 (len cap : Nat) (lo hi : Option Nat) : Option (Nat × Nat × Option Nat) := match hi with
  | none => bnd3 lo len none
  | some h => match leO h cap with
    | some h => bnd3 lo h none
    | none => none
def bnd (len cap : Nat) (lo hi mx : Option Nat) : Option (Nat × Nat × Option Nat) := match mx with
  | none => bnd2 len cap lo hi
  | some m => match leO m cap with
    | none => none
    | some m => match hi with
      | none => none
      | some h => match leO h m with
        | some h => bnd3 lo h (some m)
        | none => none

def mkSl (b : Pos) (off sz l h m : Nat) : V :=
  .slice b (match Nat.beq m l with | true => off | false => off + l * sz) (h - l) (some (m - l))

def sliceArr (b : Pos) (off sz n : Nat) (lo hi mx : Option Nat) : Option V := match bnd n n lo hi mx with
  | some (l, h, some m) => some (mkSl b off sz l h m)
  | some (l, h, none) => some (mkSl b off sz l h n)
  | none => none

def sliceTight (sz : Nat) (b : Pos) (off len : Nat) (lo hi mx : Option Nat) : Option V := match bnd len len lo hi mx with
  | some (l, h, some m) => some (mkSl b off sz l h m)
  | _ => none
def sliceLoose (h : H) (sz : Nat) (b : Pos) (off len : Nat) (lo hi mx : Option Nat) : Option V := match h.get b with
  | .cells cs _ (some (z + 1)) _ _ => match Nat.beq (z + 1) sz with
    | false => none
    | true => match bnd len ((cs.length - off) / sz) lo hi mx with
      | some (l, h, some m) => some (mkSl b off sz l h m)
      | some (l, h, none) => match Nat.blt l ((cs.length - off) / sz), Nat.beq l 0 with
        | false, false => none
        | _, _ => some (.slice b (off + l * sz) (h - l) none)
      | none => none
  | _ => none
def sliceSl (h : H) (sz : Nat) (b : Pos) (off len : Nat) (cap lo hi mx : Option Nat) : Option V := match cap with
  | some c => match bnd len c lo hi mx with
    | some (l, h, some m) => some (mkSl b off sz l h m)
    | some (l, h, none) => some (mkSl b off sz l h c)
    | none => none
  | none => match sliceTight sz b off len lo hi mx with
    | some v => some v
    | none => sliceLoose h sz b off len lo hi mx

def sliceStr (s : ByteArray) (lo hi : Option Nat) : Option V := match bnd s.size s.size lo hi none with
  | some (l, h, _) => some (.str ⟨⟨(s.data.toList.drop l).take (h - l)⟩⟩)
  | none => none

def sliceV (C : Ctx) (h : H) (t : TypeId) (x : V) (lo hi mx : Option Nat) : Option V :=
  match und C t with
  | some .string => match x, mx with
    | .str s, none => sliceStr s lo hi
    | _, _ => none
  | some (.slice e) => match x with
    | .nilsl => match szOf C e with
      | some _ => match bnd 0 0 lo hi mx with
        | some _ => some .nilsl
        | none => none
      | none => none
    | .slice b off len cap => match szOf C e with
      | some sz => sliceSl h sz b off len cap lo hi mx
      | none => none
    | _ => none
  | some (.array n e) => match x with
    | .ptr b off => match szOf C e with
      | some sz => sliceArr b off sz n lo hi mx
      | none => none
    | _ => none
  | some (.pointer arr) => match x with
    | .ptr b off => match und C arr with
      | some (.array n e) => match szOf C e with
        | some sz => sliceArr b off sz n lo hi mx
        | none => none
      | _ => none
    | _ => none
  | _ => none

/-- the cells of the first n elements of a slice or string -/
def firstL (h : H) (sz n : Nat) : V → Option (List V)
  | .nilsl => some []
  | .slice b off _ _ => match cellsAt h b with
    | some cs => takeL (n * sz) (dropL off cs)
    | none => none
  | .str s => match Nat.beq sz 1 with
    | true => some ((s.data.toList.take n).map fun c => .int .u8 (.ofNat c.toNat))
    | false => none
  | _ => none

def lenV : V → Option Nat
  | .nilsl => some 0
  | .slice _ _ n _ => some n
  | .str s => some s.size
  | _ => none

def grown (h : H) (e : TypeId) (sz len : Nat) (old new : List V) : R := match okCells old with
  | true => newR h ⟨.cells (old ++ new) e (some sz) 0 false, .slice len none⟩
  | false => .fail

def kill (b : Pos) : V → H → R := fun v h => .ok v (h.put b .dead)

def appendAt (h : H) (e : TypeId) (sz n : Nat) (new : List V) (b : Pos) (off len : Nat) (cs : List V) (fz : Nat) : R := match Nat.ble (off + (len + n) * sz) cs.length with
  | true => R.ofH (.slice b off (len + n) none) (storeL h b (off + len * sz) new)
  | false => match Nat.beq (off + len * sz) cs.length && okCells (dropL off cs) && Nat.ble fz cs.length with
    | true => (newR h ⟨.cells (dropL off cs ++ new) e (some sz) (fz - off) false, .slice (len + n) none⟩).bind (kill b)
    | false => .fail
def appendSl (h : H) (e : TypeId) (sz n : Nat) (new : List V) (b : Pos) (off len : Nat) (cap : Option Nat) : R := match cap with
  | some c => match Nat.ble (len + n) c with
    | true => R.ofH (.slice b off (len + n) (some c)) (storeL h b (off + len * sz) new)
    | false => match firstL h sz len (.slice b off len cap) with
      | some old => grown h e sz (len + n) old new
      | none => .fail
  | none => match h.get b with
    | .cells cs e' (some (z + 1)) fz false => match Nat.beq (z + 1) sz && Nat.beq e' e with
     | false => .fail
     | true => appendAt h e sz n new b off len cs fz
    | _ => .fail

def appendNew (h : H) (e : TypeId) (sz n : Nat) (s : V) (new : List V) : R := match okCells new with
  | false => .fail
  | true => match s with
    | .nilsl => newR h ⟨.cells new e (some sz) 0 false, .slice n none⟩
    | .slice b off len cap => appendSl h e sz n new b off len cap
    | _ => .fail
/-- room for what is appended, by far -/
def grows (C : Ctx) (e : TypeId) (sz : Nat) (s : V) (n : Nat) : Bool := match inf C e, zeroV C e, lenV s with
  | some i, some z, some len => Nat.ble ((len + n) * i.bytes) 140737488355328 && Nat.ble (len + n) 140737488355328 && Nat.beq z.cells.length sz
  | _, _, _ => false
def append0 (h : H) : V → R
  | .nilsl => .ok .nilsl h
  | .slice b off len none => .ok (.slice b off len none) h
  | .slice b off len (some c) => match Nat.ble len c with
    | true => .ok (.slice b off len (some c)) h
    | false => .fail
  | _ => .fail
def appendG (C : Ctx) (h : H) (e : TypeId) (sz n : Nat) (s : V) (new : List V) : R := match grows C e sz s n with
  | true => appendNew h e sz n s new
  | false => .fail

def appendX (C : Ctx) (h : H) (e : TypeId) (sz : Nat) (s x : V) : Option Nat → R
  | none => .fail
  | some 0 => append0 h s
  | some n => match firstL h sz n x with
    | none => .fail
    | some new => appendG C h e sz n s new
def appendV (C : Ctx) (h : H) (st : TypeId) (s x : V) : R :=
  match elemOf C st with
  | none => .fail
  | some e => match szOf C e with
    | some (sz + 1) => appendX C h e (sz + 1) s x (lenV x)
    | _ => .fail

/-- append(s, make(T, n)...) -/
def appendO (C : Ctx) (h : H) (e : TypeId) (sz : Nat) (s : V) (n : Nat) (z : List V) : R := match n with
  | 0 => append0 h s
  | n => match Nat.ble n 1048576 with
    | true => appendG C h e sz n s (repl n z)
    | false => .fail
def appendZ (C : Ctx) (h : H) (st : TypeId) (s : V) (n : Nat) : R :=
  match elemOf C st with
  | none => .fail
  | some e => match szOf C e, zeroV C e with
    | some (sz + 1), some z => match Nat.beq z.cells.length (sz + 1) with
      | true => appendO C h e (sz + 1) s n z.cells
      | false => .fail
    | _, _ => .fail

def appendB (C : Ctx) (h : H) (st xt : TypeId) (s x : V) : R := match und C xt with
  | some (.int _) => match natOf x with
    | some n => appendZ C h st s n
    | none => .fail
  | some _ => appendV C h st s x
  | none => .fail

def clearB (C : Ctx) (h : H) (t : TypeId) : V → R
  | .nilmap | .nilsl => .ok (.tuple []) h
  | .map r => match h.get r with
    | .map _ clock => .ok (.tuple []) (h.put r (.map [] clock))
    | _ => .fail
  | .slice b off n _ => match n with
    | 0 => .ok (.tuple []) h
    | n => match elemOf C t with
      | some e => match zeroV C e with
        | some z => R.ofH (.tuple []) (storeL h b off (repl n z.cells))
        | none => .fail
      | none => .fail
  | _ => .fail

/-! maps -/
def keyEq (ks : List Kd) : V → V → Option Bool
  | .agg xs, .agg ys => eqCells ks xs ys
  | x, y => match ks with
    | [k] => eqCell k x y
    | _ => none
def findK (ks : List Kd) (k : V) : List (V × V × Nat) → Nat → Option (Option (Nat × V × Nat))
  | [], _ => some none
  | (x, v, b) :: es, i => match keyEq ks k x with
    | some true => some (some (i, v, b))
    | some false => findK ks k es (i + 1)
    | none => none
def fitCell : Kd → V → Bool
  | .i, .int _ _ => true
  | .b, .bool _ => true
  | .s, .str _ => true
  | _, _ => false
def fitCells : List Kd → List V → Bool
  | [], [] => true
  | k :: ks, c :: cs => match fitCell k c with
    | true => fitCells ks cs
    | false => false
  | _, _ => false
def keyOk (C : Ctx) (t : TypeId) (ks : List Kd) (v : V) : Bool := match shp C t with
  | .row n => match v with
    | .agg xs => match Nat.beq xs.length n with
      | true => fitCells ks xs
      | false => false
    | _ => false
  | .cell => match ks with
    | [k] => fitCell k v
    | _ => false
  | .bad => false
structure MT where
  key : TypeId
  elem : TypeId
  ks : List Kd
def mapTy (C : Ctx) (t : TypeId) : Option MT := match und C t with
  | some (.map k e) => match kinds C.P k with
    | some ks => some ⟨k, e, ks⟩
    | none => none
  | _ => none

def byteOf : V → Option UInt8
  | .int .u8 c => some (UInt8.ofNat c.toNat)
  | _ => none

def lenB (C : Ctx) (h : H) (t : TypeId) (v : V) : Option V := match und C t with
  | some .string => match v with
    | .str s => some (.int .i64 (.ofNat s.size))
    | _ => none
  | some (.slice _) => match v with
    | .slice _ _ n _ => some (.int .i64 (.ofNat n))
    | .nilsl => some (.int .i64 0)
    | _ => none
  | some (.map _ _) => match v with
    | .nilmap => some (.int .i64 0)
    | .map r => match h.get r with
      | .map es _ => some (.int .i64 (.ofNat es.length))
      | _ => none
    | _ => none
  | some (.chan _ _) => match v with
    | .nilchan => some (.int .i64 0)
    | .chan r => match h.get r with
      | .chan _ buf .. => some (.int .i64 (.ofNat buf.length))
      | _ => none
    | _ => none
  | some (.array n _) => some (.int .i64 (.ofNat n))
  | _ => none
def capB (C : Ctx) (h : H) (t : TypeId) (v : V) : Option V := match und C t with
  | some (.slice _) => match v with
    | .slice _ _ _ (some n) => some (.int .i64 (.ofNat n))
    | .nilsl => some (.int .i64 0)
    | _ => none
  | some (.chan _ _) => match v with
    | .nilchan => some (.int .i64 0)
    | .chan r => match h.get r with
      | .chan n .. => some (.int .i64 (.ofNat n))
      | _ => none
    | _ => none
  | _ => none
def minB : V → List V → Option V
  | v, [] => some v
  | .int k x, .int _ y :: l => minB (.int k (match ltI y x with | true => y | false => x)) l
  | _, _ => none
def maxB : V → List V → Option V
  | v, [] => some v
  | .int k x, .int _ y :: l => maxB (.int k (match ltI x y with | true => y | false => x)) l
  | _, _ => none
def copyB (C : Ctx) (h : H) (t : TypeId) (d s : V) : R := match elemOf C t with
  | none => .fail
  | some e => match szOf C e, lenV s, lenV d with
    | some sz, some m, some dl => match firstL h sz (Nat.min m dl) s with
      | none => .fail
      | some cs => match d with
        | .nilsl => .ok (.int .i64 0) h
        | .slice b off _ _ => match cs with
          | [] => .ok (.int .i64 (.ofNat (Nat.min m dl))) h
          | _ => R.ofH (.int .i64 (.ofNat (Nat.min m dl))) (storeL h b off cs)
        | _ => .fail
    | _, _, _ => .fail
def sdB : V → Option V
  | .nilsl => some .nilp
  | .slice b off _ (some (_ + 1)) => some (.ptr b off)
  | .slice b off (_ + 1) none => some (.ptr b off)
  | _ => none
def frees : Option Nat → Bool
  | some 0 => false
  | _ => true
def usPut (h : H) (b : Pos) (off n : Nat) (cs : List V) (e : TypeId) (g : Option Nat) (fz : Nat) : Option (List V) → R
  | some l => match mapO byteOf l with
    | some bs => .ok (.str ⟨⟨bs⟩⟩) (h.put b (.cells cs e g (max fz (off + n)) false))
    | none => .fail
  | none => .fail
def usB (C : Ctx) (h : H) (u : TypeId) (n : Nat) : V → R
  | .nilp => match n with
    | 0 => .ok (.str ⟨⟨[]⟩⟩) h
    | _ => .fail
  | .ptr b off => match n with
    | 0 => .ok (.str ⟨⟨[]⟩⟩) h
    | n => match h.get b with
      | .cells cs e g fz false => match szOf C e with
        | some 1 => match Nat.beq e u && frees g && Nat.ble n 9223372036854775807 with
          | true => usPut h b off n cs e g fz (takeL n (dropL off cs))
          | false => .fail
        | _ => .fail
      | _ => .fail
  | _ => .fail
def deleteB (C : Ctx) (h : H) (t : TypeId) (m k : V) : R := match mapTy C t with
  | none => .fail
  | some mt => match m with
    | .nilmap => match keyOk C mt.key mt.ks k with
      | true => .ok (.tuple []) h
      | false => .fail
    | .map r => match h.get r with
      | .map es clock => match keyOk C mt.key mt.ks k, findK mt.ks k es 0 with
        | true, some (some (i, _)) => .ok (.tuple []) (h.put r (.map (es.eraseIdx i) clock))
        | true, some none => .ok (.tuple []) h
        | _, _ => .fail
      | _ => .fail
    | _ => .fail

/-- the builtins that only look -/
def lookB (C : Ctx) (h : H) (b : Builtin) (ats : List TypeId) (args : List V) : Option V := match b with
  | .len => match ats, args with
    | t :: _, x :: _ => lenB C h t x
    | _, _ => none
  | .cap => match ats, args with
    | t :: _, x :: _ => capB C h t x
    | _, _ => none
  | .min => match args with
    | x :: l => minB x l
    | _ => none
  | .max => match args with
    | x :: l => maxB x l
    | _ => none
  | .unsafeSliceData => match args with
    | [x] => sdB x
    | _ => none
  | _ => none
def looksB : Builtin → Bool
  | .len | .cap | .min | .max | .unsafeSliceData => true
  | _ => false

def builtinV (C : Ctx) (h : H) (b : Builtin) (ats : List TypeId) (args : List V) : R :=
  match b with
  | .append => match ats, args with
    | t :: u :: _, [s, x] => appendB C h t u s x
    | _, _ => .fail
  | .clear => match ats, args with
    | t :: _, [x] => match und C t with
      | some _ => clearB C h t x
      | none => .fail
    | _, _ => .fail
  | .copy => match ats, args with
    | t :: _, [d, s] => copyB C h t d s
    | _, _ => .fail
  | .unsafeString => match ats, args with
    | t :: _, [p, .int _ n] => match und C t, natI n with
      | some (.pointer u), some n => usB C h u n p
      | _, _ => .fail
    | _, _ => .fail
  | .delete => match ats, args with
    | t :: _, [m, k] => deleteB C h t m k
    | _, _ => .fail
  | _ => .fail

def idxByte (c : Int) : List UInt8 → Nat → Int
  | [], _ => -1
  | x :: l, i => match eqI (.ofNat x.toNat) c with
    | true => .ofNat i
    | false => idxByte c l (i + 1)
def cntByte (c : Int) : List UInt8 → Nat → Nat
  | [], n => n
  | x :: l, n => match eqI (.ofNat x.toNat) c with
    | true => cntByte c l (n + 1)
    | false => cntByte c l n

def extV (h : H) (x : Ext) (args : List V) : R := match x with
  | .noEscape => match args with
    | [v] => .ok v h
    | _ => .fail
  | .makeNoZero e => match args with
    | [.int .i64 n] => match natI n with
      | some n => match Nat.ble n 1048576 with
        | true => newR h ⟨.cells (repl n [.junk]) e (some 1) 0 false, .slice n none⟩
        | false => .fail
      | none => .fail
    | _ => .fail
  | .indexByte => match args with
    | [.str s, .int .u8 c] => .ok (.int .i64 (idxByte (.ofNat (c.toNat % 256)) s.data.toList 0)) h
    | _ => .fail
  | .count => match args with
    | [.str s, .int .u8 c] => .ok (.int .i64 (.ofNat (cntByte (.ofNat (c.toNat % 256)) s.data.toList 0))) h
    | _ => .fail

/-! operations that make a value of their operands alone -/
def placesOf (C : Ctx) : List Field → Option (List (Nat × Nat))
  | [] => some []
  | f :: fs => match szOf C f.type, placesOf C fs with
    | some n, some l => some ((f.offset, n) :: l)
    | _, _ => none
def placeS (l : List (Nat × Nat)) (i : Nat) : Option (Nat × Nat) := l[i]?
def placeA (sz i : Nat) : Option (Nat × Nat) := some (i * sz, sz)
def zipP : List (Nat × Operand) → List V → List (Nat × V)
  | (i, _) :: ps, v :: vs => (i, v) :: zipP ps vs
  | _, _ => []
def aggO : Option (List V) → Option V
  | some l => some (.agg l)
  | none => none
def opBuild (C : Ctx) (ty : TypeId) (parts : List (Nat × Operand)) (vs : Option (List V)) : Option V :=
  match vs, zeroV C ty with
  | some vs, some z => match und C ty with
    | some (.struct fs) => match placesOf C fs.toList with
      | some l => aggO (fillL (placeS l) z.cells (zipP parts vs))
      | none => none
    | some (.array _ e) => match szOf C e with
      | some sz => aggO (fillL (placeA sz) z.cells (zipP parts vs))
      | none => none
    | _ => none
  | _, _ => none
def opNilCheck : Option V → Option V
  | some (.ptr b off) => some (.ptr b off)
  | some (.iface t v) => some (.iface t v)
  | some (.func (.func f) a c) => some (.func (.func f) a c)
  | some (.yield l) => some (.yield l)
  | _ => none
def isConst : Operand → Bool
  | .const _ => true
  | _ => false
def nilEq (C : Ctx) (ty : TypeId) (op : BinOp) (x y : Operand) : Option V := match isConst x || isConst y, und C ty with
  | true, some (.interface _) => match op with
    | .eql => some (.bool true)
    | .neq => some (.bool false)
    | _ => none
  | _, _ => none
def opBin (C : Ctx) (op : BinOp) (ty : TypeId) (x y : Operand) (a b : Option V) : Option V := match a with
  | none => none
  | some .nilif => match b with
    | some .nilif => nilEq C ty op x y
    | some b => binV C op ty .nilif b
    | none => none
  | some a => match b with
    | none => none
    | some b => binV C op ty a b
def opUn (op : UnOp) : Option V → Option V
  | some (.bool b) => match op with
    | .not => some (.bool !b)
    | _ => none
  | some (.int k n) => match op with
    | .neg => some (.int k (wrapF k (0 - n)))
    | _ => none
  | _ => none
def opIface (C : Ctx) (ty : TypeId) : Option V → Option V
  | none => none
  | some v => match und C ty with
    | some (.interface _) => none
    | some _ => some (.iface ty v)
    | none => none
def opFunc (fn : Fn) (a c : Option (List V)) : Option V := match a, c with
  | some a, some c => match fn with
    | .yield _ => none
    | fn => some (.func fn a c)
  | _, _ => none
def opFieldAddr (C : Ctx) (st : TypeId) (f : Nat) : Option V → Option V
  | some (.ptr b off) => match und C st with
    | some (.struct fs) => match fs[f]? with
      | some fd => match szOf C fd.type with
        | some (_ + 1) => some (.ptr b (off + fd.offset))
        | _ => none
      | none => none
    | _ => none
  | _ => none
def opField (C : Ctx) (ty : TypeId) (f : Nat) : Option V → Option V
  | some (.agg cs) => match und C ty with
    | some (.struct fs) => match fs[f]? with
      | some fd => partL C fd.type cs fd.offset
      | none => none
    | _ => none
  | _ => none
def inO (i len : Nat) (v : V) : Option V := match Nat.blt i len with
  | true => some v
  | false => none
def opIndexAddr (C : Ctx) (ty : TypeId) (x ix : Option V) : Option V := match ix with
  | some (.int _ i) => match natI i with
    | none => none
    | some i => match und C ty, x with
      | some (.array len e), some (.ptr b off) => match szOf C e with
        | some sz => inO i len (.ptr b (off + i * sz))
        | none => none
      | some (.slice e), some (.slice b off len _) => match szOf C e with
        | some sz => inO i len (.ptr b (off + i * sz))
        | none => none
      | _, _ => none
  | _ => none
def opIndex (C : Ctx) (ty : TypeId) (x ix : Option V) : Option V := match ix with
  | some (.int _ i) => match natI i with
    | none => none
    | some i => match x with
      | some (.agg cs) => match und C ty with
        | some (.array len e) => match szOf C e, Nat.blt i len with
          | some sz, true => partL C e cs (i * sz)
          | _, _ => none
        | _ => none
      | some (.str s) => match und C ty with
        | some .string => match s.data.toList[i]? with
          | some b => some (.int .u8 (.ofNat b.toNat))
          | none => none
        | _ => none
      | _ => none
  | _ => none
def okPair (ok : Bool) (v : V) (is : Bool) : V := match ok with
  | true => .tuple [v, .bool is]
  | false => v
def missed (C : Ctx) (t : TypeId) (ok : Bool) : Option V := match ok, zeroV C t with
  | true, some z => some (.tuple [z, .bool false])
  | _, _ => none
def opAssert (C : Ctx) (asserted : TypeId) (ok : Bool) : Option V → Option V
  | some .nilif => match und C asserted with
    | some _ => missed C asserted ok
    | none => none
  | some (.iface t w) => match und C asserted with
    | some (.interface want) => match inf C t with
      | some i => match Instr.missingMethod want i.methods with
        | none => some (okPair ok (.iface t w) true)
        | some _ => missed C asserted ok
      | none => none
    | some _ => match Nat.beq t asserted with
      | true => some (okPair ok w true)
      | false => missed C asserted ok
    | none => none
  | _ => none
def opExtract (i : Nat) : Option V → Option V
  | some (.tuple vs) => nthL vs i
  | _ => none
def opPick (c a b : Option V) : Option V := match c with
  | some (.bool true) => a
  | some (.bool false) => b
  | _ => none

/-! operations that read memory -/
def opLoad (C : Ctx) (h : H) (ty : TypeId) : Option V → Option V
  | some (.ptr b off) => loadL C h ty b off
  | _ => none
def opOpt (C : Ctx) (t : Tr V) : Option Operand → Option (Option Nat)
  | none => some none
  | some x => match opd C t x with
    | some v => match natOf v with
      | some n => some (some n)
      | none => none
    | none => none
def opSlice (C : Ctx) (h : H) (ty : TypeId) (x : Option V) (lo hi mx : Option (Option Nat)) : Option V := match x with
  | none => none
  | some v => match lo, hi, mx with
    | some lo, some hi, some mx => sliceV C h ty v lo hi mx
    | _, _, _ => none
def bytesStr (l : Option (List V)) : Option V := match l with
  | some l => match mapO byteOf l with
    | some bs => some (.str ⟨⟨bs⟩⟩)
    | none => none
  | none => none
def opConvS (C : Ctx) (h : H) (e : TypeId) (v : V) : Option V := match und C e with
  | some (.int .u8) => match v with
    | .nilsl => some (.str ⟨⟨[]⟩⟩)
    | .slice b off n c => bytesStr (firstL h 1 n (.slice b off n c))
    | _ => none
  | _ => none
def inBlock (h : H) (b : Pos) (off : Nat) : Bool := match h.get b with
  | .cells cs _ _ _ _ => Nat.blt off cs.length
  | _ => false
def liesIn (C : Ctx) (h : H) (u : TypeId) (b : Pos) (off : Nat) : Bool := match h.get b with
  | .cells cs e none _ _ => Nat.blt off cs.length && liesAt C.P C.P.depth e (cs.length / C.P.cellsOf e) off u 1
  | _ => false
def opConvP (C : Ctx) (h : H) (s d : TypeDesc) (v : V) : Option V := match d with
  | .unsafePointer => match s with
    | .pointer t => match v with
      | .ptr b off => match szOf C t, inBlock h b off with
        | some (_ + 1), true => some (.ptr b off)
        | _, _ => none
      | _ => none
    | _ => none
  | .pointer u => match s with
    | .unsafePointer => match v with
      | .ptr b off => match szOf C u, liesIn C h u b off with
        | some _, true => some (.ptr b off)
        | _, _ => none
      | _ => none
    | _ => none
  | _ => none
def opConv (C : Ctx) (h : H) (s d : TypeDesc) (v : V) : Option V := match d with
  | .int k => match v with
    | .int _ n => some (.int k (wrapF k n))
    | _ => none
  | .string => match v with
    | .str s => some (.str s)
    | v => match s with
      | .slice e => opConvS C h e v
      | _ => none
  | d => opConvP C h s d v
def opConvO (C : Ctx) (h : H) (s d : TypeDesc) : Option V → Option V
  | some v => opConv C h s d v
  | none => none
def entriesOf (h : H) : Option V → Option (List (V × V × Nat))
  | some .nilmap => some []
  | some (.map r) => match h.get r with
    | .map es _ => some es
    | _ => none
  | _ => none
def opLookup (C : Ctx) (h : H) (ty : TypeId) (x ix : Option V) (ok : Bool) : Option V := match mapTy C ty, ix with
  | some mt, some k => match keyOk C mt.key mt.ks k, entriesOf h x with
    | true, some es => match findK mt.ks k es 0 with
      | some (some (_, v, _)) => some (okPair ok v true)
      | some none => match zeroV C mt.elem with
        | some z => some (okPair ok z false)
        | none => none
      | none => none
    | _, _ => none
  | _, _ => none
def opEntry (h : H) (it : Option V) : Option V := match it with
  | some (.ptr r 0) => match h.get r with
    | .miter (some m) _ seen stepped => match seen.getLast?, h.get m with
      | some st, .map es clock => match Nat.beq clock stepped with
        | true => match es.find? (fun e => Nat.beq e.2.2 st) with
          | some (k, v, _) => some (.tuple [k, v])
          | none => none
        | false => none
      | _, _ => none
    | _ => none
  | _ => none
def opLookB (C : Ctx) (h : H) (b : Builtin) (ats : List TypeId) : Option (List V) → Option V
  | some vs => lookB C h b ats vs
  | none => none

/-! operations that make one new block -/
def box (e : TypeId) : Option V → Option Al
  | some v => some ⟨.cells v.cells e none 0 false, .ptr⟩
  | none => none
def opBuildSlice (C : Ctx) (ty : TypeId) (len : Nat) (parts : List (Nat × Operand)) (vs : Option (List V)) : Option Al :=
  match elemOf C ty with
  | none => none
  | some e => match szOf C e, zeroV C e, vs with
    | some sz, some z, some vs => match Nat.ble (len * sz) 16777216 && Nat.beq z.cells.length sz, fillL (placeA sz) (repl len z.cells) (zipP parts vs) with
      | true, some cs => some ⟨.cells cs e none 0 false, .slice len (some len)⟩
      | _, _ => none
    | _, _, _ => none
def opMap (C : Ctx) (t : Tr V) (ty : TypeId) (r : Option Operand) : Option Al := match und C ty with
  | some (.map _ _) => match r with
    | none => some ⟨.map [] 0, .map⟩
    | some x => match opd C t x with
      | some (.int _ _) => some ⟨.map [] 0, .map⟩
      | _ => none
  | _ => none
def opChan (C : Ctx) (ty : TypeId) : Option V → Option Al
  | some (.int _ n) => match und C ty, natI n with
    | some (.chan _ e), some n => match inf C e with
      | some i => match Nat.ble (i.bytes * n) 1048576 && Nat.ble n 1048576 with
        | true => some ⟨.chan n [] false 0 0, .chan⟩
        | false => none
      | none => none
    | _, _ => none
  | _ => none
def opMkSl (C : Ctx) (ty : TypeId) (l c : Option V) : Option Al := match elemOf C ty with
  | none => none
  | some e => match zeroV C e, inf C e, l, c with
    | some z, some i, some (.int _ l), some (.int _ c) => match natI l, natI c with
      | some l, some c => match Nat.ble l c && Nat.ble c 16777216 && Nat.ble (i.bytes * c) 1099511627776 && Nat.beq z.cells.length i.size with
        | true => some ⟨.cells (repl c z.cells) e none 0 false, .slice l (some c)⟩
        | false => none
      | _, _ => none
    | _, _, _, _ => none
def opBytes (e : TypeId) : Option V → Option Al
  | some (.str s) => some ⟨.cells (s.data.toList.map fun c => .int .u8 (.ofNat c.toNat)) e (some 0) 0 false, .slice s.size none⟩
  | _ => none

/-! operations that change memory -/
def opStore (C : Ctx) (h : H) (ty : TypeId) (a x : Option V) : R := match a with
  | some (.ptr b off) => match x with
    | some v => match szOf C ty with
      | some n => match Nat.beq n v.cells.length with
        | true => match v.cells with
          | [] => .fail
          | c :: cs => R.ofH undef (storeL h b off (c :: cs))
        | false => .fail
      | none => .fail
    | none => .fail
  | _ => .fail
def opMapSet (C : Ctx) (h : H) (ty : TypeId) (m k x : Option V) : R := match mapTy C ty, m, k, x with
  | some mt, some (.map r), some k, some v => match keyOk C mt.key mt.ks k, h.get r with
    | true, .map es clock => match findK mt.ks k es 0 with
      | some (some (i, _, b)) => .ok undef (h.put r (.map (es.set i (k, v, b)) clock))
      | some none => .ok undef (h.put r (.map (es ++ [(k, v, clock)]) (clock + 1)))
      | none => .fail
    | _, _ => .fail
  | _, _, _, _ => .fail
def opMapEntry (C : Ctx) (h : H) (ty : TypeId) (m k : Option V) : R := match mapTy C ty, m, k with
  | some mt, some (.map r), some k => match keyOk C mt.key mt.ks k, h.get r with
    | true, .map es clock => match findK mt.ks k es 0 with
      | some (some (i, v, b)) => .ok (.tuple [v, .int .i64 (.ofNat b)]) (h.put r (.map (es.set i (k, v, b)) clock))
      | some none => match zeroV C mt.elem with
        | some z => .ok (.tuple [z, .int .i64 (.ofNat clock)]) (h.put r (.map (es ++ [(k, z, clock)]) (clock + 1)))
        | none => .fail
      | none => .fail
    | _, _ => .fail
  | _, _, _ => .fail
def findBorn (b : Int) : List (V × V × Nat) → Nat → Option (Nat × V × Nat)
  | [], _ => none
  | (k, _, n) :: es, i => match eqI (.ofNat n) b with
    | true => some (i, k, n)
    | false => findBorn b es (i + 1)
def opEntryStore (h : H) (m st x : Option V) : R := match m, st, x with
  | some (.map r), some (.int _ born), some v => match h.get r with
    | .map es clock => match findBorn born es 0 with
      | some (i, k, b) => .ok undef (h.put r (.map (es.set i (k, v, b)) clock))
      | none => .fail
    | _ => .fail
  | _, _, _ => .fail
def opRange (C : Ctx) (h : H) (ty : TypeId) (x : Option V) : R := match und C ty, x with
  | some .string, some (.str s) => newR h ⟨.siter s 0, .ptr⟩
  | some (.map _ _), some .nilmap => newR h ⟨.miter none 0 [] 0, .ptr⟩
  | some (.map _ _), some (.map m) => match h.get m with
    | .map _ clock => newR h ⟨.miter (some m) clock [] clock, .ptr⟩
    | _ => .fail
  | _, _ => .fail
def stepMap (h : H) (r m : Pos) (since : Nat) (seen : List Nat) (clock : Nat) : Option (V × V × Nat) → R
  | some (k, v, b) => .ok (.tuple [.bool true, k, v]) (h.put r (.miter (some m) since (seen ++ [b]) clock))
  | none => .fail
def nextMap (h : H) (r m : Pos) (since : Nat) (seen : List Nat) (last : Nat) : R := match h.get m with
  | .map es clock =>
    match !seen.isEmpty && !es.isEmpty && es.all (fun e => Nat.ble last e.2.2) with
    | true => .fail
    | false => match es.filter (fun e => !seen.contains e.2.2) with
      | [] => .ok (.tuple [.bool false]) h
      | [e] => match Nat.blt e.2.2 since with
        | true => stepMap h r m since seen clock (some e)
        | false => .fail
      | l => match l.all (fun e => Nat.blt e.2.2 since) with
        | true => .ask l.length fun i => stepMap h r m since seen clock l[i]?
        | false => .fail
  | _ => .fail
def opNext (h : H) (it : Option V) (isStr : Bool) : R := match it with
  | some (.ptr r 0) => match h.get r, isStr with
    | .siter s pos, true => match Nat.blt pos s.size with
      | true => match Utf8.decode s pos with
        | (c, w) => .ok (.tuple [.bool true, .int .i64 (.ofNat pos), .int .i32 (.ofNat c)]) (h.put r (.siter s (pos + w)))
      | false => .ok (.tuple [.bool false]) h
    | .miter none _ _ _, false => .ok (.tuple [.bool false]) h
    | .miter (some m) since seen last, false => nextMap h r m since seen last
    | _, _ => .fail
  | _ => .fail
def opBuiltin (C : Ctx) (h : H) (b : Builtin) (ats : List TypeId) : Option (List V) → R
  | some vs => builtinV C h b ats vs
  | none => .fail
def opSend (h : H) (ch x : Option V) : R := match ch, x with
  | some (.chan r), some v => match h.get r with
    | .chan cap buf false s rc => match Nat.blt buf.length cap with
      | true => .ok undef (h.put r (.chan cap (buf ++ [v]) false (s + 1) rc))
      | false => .fail
    | _ => .fail
  | _, _ => .fail
def opRecv1 (h : H) (ok : Bool) : Option V → R
  | some (.chan r) => match h.get r with
    | .chan cap (v :: buf) cl s rc => .ok (okPair ok v true) (h.put r (.chan cap buf cl s (rc + 1)))
    | _ => .fail
  | _ => .fail
def opRecv (C : Ctx) (h : H) (ty : TypeId) (ok : Bool) (x : Option V) : R := match und C ty with
  | some (.chan _ e) => match zeroV C e with
    | some _ => opRecv1 h ok x
    | none => .fail
  | _ => .fail
def opSelect1 (h : H) (z : V) : Option V → R
  | some (.chan r) => match h.get r with
    | .chan cap (v :: buf) cl s rc => .ok (.tuple [.int .i64 0, .bool true, v]) (h.put r (.chan cap buf cl s (rc + 1)))
    | .chan _ [] false _ _ => .ok (.tuple [.int .i64 (-1), .bool false, z]) h
    | _ => .fail
  | _ => .fail
def opSelect (C : Ctx) (h : H) (elem : TypeId) (x : Option V) : R := match zeroV C elem with
  | some z => opSelect1 h z x
  | none => .fail

/-! methods -/
def recvAt (C : Ctx) (h : H) (xt : TypeId) (v : V) (ptrRecv : Bool) : Option V :=
  match und C xt, ptrRecv with
  | some (.pointer _), true => some v
  | some (.pointer e), false => match v with
    | .ptr b off => loadL C h e b off
    | _ => none
  | some _, false => some v
  | _, _ => none

def methodV (C : Ctx) (h : H) (t : TypeId) (v : V) (name : String) : Option (FuncId × V) :=
  match inf C t with
  | none => none
  | some i => match i.methods.toList.find? (·.name == name) with
    | some { path := ⟨[]⟩, func := some (f, p), .. } => match recvAt C h t v p with
      | some r => some (f, r)
      | none => none
    | _ => none

/-! the evaluator -/
abbrev Exec := Nat → Code → Tr V → List D → H → E

def results (C : Ctx) (t : Tr V) (h : H) : List ResultVar → Option (List V)
  | [] => some []
  | .tmp i :: rs => match results C t h rs with
    | some vs => some (getT t i :: vs)
    | none => none
  | .cell a ty :: rs => match getT t a with
    | .ptr b off => match loadL C h ty b off, results C t h rs with
      | some v, some vs => some (v :: vs)
      | _, _ => none
    | _ => none

def retV : List V → V
  | [v] => v
  | vs => .tuple vs

def bindArgs : Nat → List V → Tr V → Tr V
  | _, [], t => t
  | i, v :: vs, t => bindArgs (i + 1) vs (t.set undef (nm i) v)

/-- at a return: the marks that loops over functions leave -/
def runDefers : List D → H → Option H
  | [], h => some h
  | .collected r :: ds, h => match h.get r with
    | .defd true => runDefers ds (h.put r (.defd false))
    | _ => none
  | .round :: _, _ => none

def retF (C : Ctx) (rs : List ResultVar) (t : Tr V) (h : H) : R := match results C t h rs with
  | some vs => .ok (retV vs) h
  | none => .fail
def retO (C : Ctx) (rs : List ResultVar) (t : Tr V) : Option H → R
  | some h => retF C rs t h
  | none => .fail

def endF (C : Ctx) (rs : List ResultVar) (e : Ex) (t : Tr V) (ds : List D) (h : H) : R := match e with
  | .normal => retO C rs t (runDefers ds h)
  | .ret => retO C rs t (runDefers ds h)
  | _ => .fail

/-- what there is to know of a function, looked up once -/
inductive CF where
  | no
  | ext (x : Ext)
  | hook (g : List V → H → R)
  | go (nt : Nat) (body : Code) (rs : List ResultVar)
def compF (C : Ctx) (f : FuncId) : CF := match C.hook f with
  | some g => .hook g
  | none => match C.ext f with
    | some x => .ext x
    | none => match C.fn f with
      | some fn => match fn.body with
        | some b => .go fn.ntmps b fn.results.toList
        | none => .no
      | none => .no

def callF (C : Ctx) (ex : Exec) (f : FuncId) (args : List V) (h : H) : R := match compF C f with
  | .no => .fail
  | .ext x => extV h x args
  | .hook g => g args h
  | .go nt body rs => match Nat.ble args.length nt with
    | true => (ex nt body (bindArgs 0 args .nil) [] h).bindR (endF C rs)
    | false => .fail

def jumpOf : Ex → Option Code
  | .normal => none
  | .ret => some .ret
  | .exit id => some (.exit id)
  | .goto l => some (.goto l)

def setParams (n : Nat) : List Tmp → List V → Tr V → Option (Tr V)
  | [], [], t => some t
  | p :: ps, v :: vs, t => match Nat.blt p n with
    | true => setParams n ps vs (t.set undef (nm p) v)
    | false => none
  | _, _, _ => none

def roundEnd (l : Pos) (e : Ex) (_ : Tr V) (ds : List D) (h : H) : R := match ds with
  | [.round] => match h.get l with
    | .loop r => match jumpOf e with
      | none => .ok (.bool true) (h.put l (.loop { r with st := .ready, pending := none }))
      | some j => .ok (.bool false) (h.put l (.loop { r with st := .done, pending := some j }))
    | _ => .fail
  | _ => .fail
def roundBody (ex : Exec) (l : Pos) (nt : Nat) (body : Code) (e : Ex) (t : Tr V) (ds : List D) (h : H) : R := match e, ds with
  | .normal, [.round] => match h.get l with
    | .loop r => match r.st with
      | .ready => (ex nt body t [.round] (h.put l (.loop { r with st := .busy }))).bindR (roundEnd l)
      | _ => .fail
    | _ => .fail
  | _, _ => .fail
/-- one round of a loop over a function -/
def roundF (ex : Exec) (l : Pos) (args : List V) (h : H) : R :=
  match h.get l with
  | .loop r => match setParams r.nt r.params args r.tmps with
    | some t => (ex r.nt r.assign t [.round] h).bindR (roundBody ex l r.nt r.body)
    | none => .fail
  | _ => .fail

def callM (C : Ctx) (ex : Exec) (args : List V) (h : H) : Option (FuncId × V) → R
  | some (f, r) => callF C ex f (r :: args) h
  | none => .fail

def callFn (C : Ctx) (ex : Exec) (fn : Fn) (args : List V) (h : H) : R := match fn with
  | .func f => callF C ex f args h
  | .method name => match args with
    | .iface t v :: rest => callM C ex rest h (methodV C h t v name)
    | _ => .fail
  | .methodOf t name => match args with
    | v :: rest => match und C t with
      | some (.interface _) => match v with
        | .iface t v => callM C ex rest h (methodV C h t v name)
        | _ => .fail
      | some _ => callM C ex rest h (methodV C h t v name)
      | none => .fail
    | _ => .fail
  | .via t ⟨[]⟩ f p => match args with
    | v :: rest => match recvAt C h t v p with
      | some r => callF C ex f (r :: rest) h
      | none => .fail
    | _ => .fail
  | _ => .fail

def callV (C : Ctx) (ex : Exec) (f : V) (args : List V) (h : H) : R :=
  match f with
  | .func (.func f) first capt => callF C ex f (first ++ args ++ capt) h
  | .func fn first [] => callFn C ex fn (first ++ args) h
  | .yield l => roundF ex l args h
  | _ => .fail
def callVO (C : Ctx) (ex : Exec) (f : Option V) (args : Option (List V)) (h : H) : R := match f, args with
  | some f, some args => callV C ex f args h
  | _, _ => .fail
def callIO (C : Ctx) (ex : Exec) (r : Option V) (name : String) (args : Option (List V)) (h : H) : R := match r, args with
  | some r, some args => callFn C ex (.method name) (r :: args) h
  | _, _ => .fail
/-- what an operation is, looked up once -/
inductive CK where
  | no
  | pu (f : Tr V → Option V)
  | rd (f : Tr V → H → Option V)
  | al (f : Tr V → Option Al)
  | ef (f : Tr V → H → R)
  | call (f : Exec → Tr V → H → R)

def compConv (C : Ctx) (src dst : TypeId) (x : Operand) : CK := match und C src, und C dst with
  | some s, some d => match d with
    | .slice e => match s, und C e with
      | .string, some (.int .u8) => .al fun t => opBytes e (opd C t x)
      | _, _ => .no
    | d => .rd fun t h => opConvO C h s d (opd C t x)
  | _, _ => .no

def compB (C : Ctx) (b : Builtin) (args : List Operand) (ats : List TypeId) : CK := match looksB b with
  | true => .rd fun t h => opLookB C h b ats (opds C t args)
  | false => .ef fun t h => opBuiltin C h b ats (opds C t args)

def compK (C : Ctx) : Op → CK
  | .move x => .pu fun t => opd C t x
  | .assign x => .ef fun t h => R.ofV h (opd C t x)
  | .pick c a b => .pu fun t => opPick (opd C t c) (opd C t a) (opd C t b)
  | .alloc e => .al fun _ => box e (zeroV C e)
  | .box e x => .al fun t => box e (opd C t x)
  | .build ty parts => .pu fun t => opBuild C ty parts.toList (opds C t (parts.toList.map (·.2)))
  | .buildSlice ty len parts => .al fun t => opBuildSlice C ty len parts.toList (opds C t (parts.toList.map (·.2)))
  | .load ty a => .rd fun t h => opLoad C h ty (opd C t a)
  | .store ty a x => .ef fun t h => opStore C h ty (opd C t a) (opd C t x)
  | .nilCheck x => .pu fun t => opNilCheck (opd C t x)
  | .binOp op ty x y _ => .pu fun t => opBin C op ty x y (opd C t x) (opd C t y)
  | .unOp op _ x => .pu fun t => opUn op (opd C t x)
  | .convert src dst x => compConv C src dst x
  | .makeInterface ty x => .pu fun t => opIface C ty (opd C t x)
  | .makeFunc fn first capt => .pu fun t => opFunc fn (opds C t first.toList) (opds C t capt.toList)
  | .makeMap ty r => .al fun t => opMap C t ty r
  | .makeChan ty n => .al fun t => opChan C ty (opd C t n)
  | .makeSlice ty l c => .al fun t => opMkSl C ty (opd C t l) (opd C t c)
  | .slice ty x lo hi mx => .rd fun t h => opSlice C h ty (opd C t x) (opOpt C t lo) (opOpt C t hi) (opOpt C t mx)
  | .fieldAddr st x f => .pu fun t => opFieldAddr C st f (opd C t x)
  | .field ty x f => .pu fun t => opField C ty f (opd C t x)
  | .indexAddr ty x ix => .pu fun t => opIndexAddr C ty (opd C t x) (opd C t ix)
  | .index ty x ix => .pu fun t => opIndex C ty (opd C t x) (opd C t ix)
  | .lookup ty x ix ok => .rd fun t h => opLookup C h ty (opd C t x) (opd C t ix) ok
  | .mapUpdate ty m k x => .ef fun t h => opMapSet C h ty (opd C t m) (opd C t k) (opd C t x)
  | .insert ty m k x => .ef fun t h => opMapSet C h ty (opd C t m) (opd C t k) (opd C t x)
  | .mapEntry ty m k => .ef fun t h => opMapEntry C h ty (opd C t m) (opd C t k)
  | .entryStore _ m st x => .ef fun t h => opEntryStore h (opd C t m) (opd C t st) (opd C t x)
  | .range ty x => .ef fun t h => opRange C h ty (opd C t x)
  | .next it isStr => .ef fun t h => opNext h (opd C t it) isStr
  | .entry it => .rd fun t h => opEntry h (opd C t it)
  | .typeAssert x _ asserted ok => .pu fun t => opAssert C asserted ok (opd C t x)
  | .extract x i => .pu fun t => opExtract i (opd C t x)
  | .call ⟨.builtin b, args, argTypes⟩ => compB C b args.toList argTypes.toList
  | .call ⟨.value f, args, _⟩ => .call fun ex t h => callVO C ex (opd C t f) (opds C t args.toList) h
  | .call ⟨.invoke r name, args, _⟩ => .call fun ex t h => callIO C ex (opd C t r) name (opds C t args.toList) h
  | .send ch x => .ef fun t h => opSend h (opd C t ch) (opd C t x)
  | .recv ty ch ok => .ef fun t h => opRecv C h ty ok (opd C t ch)
  | .select ⟨[⟨ch, none, elem⟩]⟩ false => .ef fun t h => opSelect C h elem (opd C t ch)
  | _ => .no

/-- an operation of a region: its number, those that come before it (by bits), its guard, its place, what it does -/
structure COp where
  i : Nat
  bef : Nat
  g : Option (Pos × Bool)
  d : Option Pos
  k : CK

def compG (ops : List Oper) : Option (Nat × Bool) → Option (Option (Pos × Bool))
  | none => some none
  | some (j, want) => match ops[j]? with
    | some o => match o.dst with
      | some d => some (some (nm d, want))
      | none => none
    | none => none
def compD (n : Nat) : Option Tmp → Option (Option Pos)
  | none => some none
  | some d => match Nat.blt d n with
    | true => some (some (nm d))
    | false => none

/-- the operations of a region, compiled; none: not covered -/
def compOps (C : Ctx) (n : Nat) (ops : List Oper) : List (Oper × Nat × Nat) → Option (List COp)
  | [] => some []
  | (o, i, b) :: rest => match compG ops o.guard, compD n o.dst, compOps C n ops rest with
    | some g, some d, some l => some (⟨i, b, g, d, compK C o.op⟩ :: l)
    | _, _, _ => none

def boolIs (want : Bool) : V → Bool
  | .bool b => eqB b want
  | _ => false
noncomputable def wantedC (t : Tr V) (g : Option (Pos × Bool)) : Bool :=
  Option.rec (motive := fun _ => Bool) true (fun x => Prod.rec (motive := fun _ => Bool) (fun d want => boolIs want (t.get undef d)) x) g
noncomputable def putC (t : Tr V) (d : Option Pos) (v : V) : Tr V :=
  Option.rec (motive := fun _ => Tr V) t (fun d => t.set undef d v) d

noncomputable def runOps (ex : Exec) (l : List COp) : Tr V → List D → H → E :=
  List.rec (motive := fun _ => Tr V → List D → H → E) (fun t ds h => .ok .normal t ds h)
    (fun c _ ih t ds h => COp.rec (motive := fun _ => E) (fun _ _ g d k => Bool.rec (motive := fun _ => E) (ih (putC t d undef) ds h)
      (CK.rec (motive := fun _ => E) .fail
        (fun f => Option.rec (motive := fun _ => E) .fail (fun v => ih (putC t d v) ds h) (f t))
        (fun f => Option.rec (motive := fun _ => E) .fail (fun v => ih (putC t d v) ds h) (f t h))
        (fun f => R.bindE (fun v h => ih (putC t d v) ds h) (newO h (f t)))
        (fun f => R.bindE (fun v h => ih (putC t d v) ds h) (f t h))
        (fun f => R.bindE (fun v h => ih (putC t d v) ds h) (f ex t h)) k)
      (wantedC t g)) c) l

/-! a region whose order is open: as early as the effects allow, each effect held against what it might have changed for the others -/
def V.beq : Nat → V → V → Bool
  | 0, _, _ => false
  | n + 1, a, b => match a, b with
    | .bool a, .bool b => eqB a b
    | .int k a, .int k' b => eqK k k' && eqI a b
    | .str a, .str b => eqBytes a.data.toList b.data.toList
    | .ptr a i, .ptr b j => a.beq b && Nat.beq i j
    | .nilp, .nilp => true
    | .slice a i l c, .slice b j m d => a.beq b && Nat.beq i j && Nat.beq l m && (match c, d with | none, none => true | some c, some d => Nat.beq c d | _, _ => false)
    | .nilsl, .nilsl => true
    | .map a, .map b => a.beq b
    | .nilmap, .nilmap => true
    | .chan a, .chan b => a.beq b
    | .nilchan, .nilchan => true
    | .nilfn, .nilfn => true
    | .func (.func f) a c, .func (.func g) b d => Nat.beq f g && beqL n a b && beqL n c d
    | .yield a, .yield b => a.beq b
    | .iface t a, .iface u b => Nat.beq t u && V.beq n a b
    | .nilif, .nilif => true
    | .agg a, .agg b => beqL n a b
    | .tuple a, .tuple b => beqL n a b
    | .junk, .junk => true
    | _, _ => false
  where
  beqL (n : Nat) : List V → List V → Bool
    | [], [] => true
    | a :: as, b :: bs => V.beq n a b && beqL n as bs
    | _, _ => false

def O.beq : O → O → Bool
  | .cells cs e g fz ro, .cells cs' e' g' fz' ro' => V.beq 6 (.tuple cs) (.tuple cs') && Nat.beq e e' && (match g, g' with | none, none => true | some a, some b => Nat.beq a b | _, _ => false) && Nat.beq fz fz' && eqB ro ro'
  | .map [] c, .map [] c' => Nat.beq c c'
  | .chan n [] a s r, .chan n' [] a' s' r' => Nat.beq n n' && eqB a a' && Nat.beq s s' && Nat.beq r r'
  | _, _ => false

/-- what has been done of the others -/
inductive Lg where
  | rd (i : Nat) (f : Tr V → H → Option V) (t : Tr V) (v : V)
  | al (i : Nat) (b : Pos) (o : O)
def Lg.i : Lg → Nat
  | .rd i .. => i
  | .al i .. => i
def Lg.holds (h : H) : Lg → Bool
  | .rd _ f t v => match f t h with
    | some w => V.beq 6 w v
    | none => false
  | .al _ b o => (h.get b).beq o
def stays (bef : Nat) (h : H) : List Lg → Bool
  | [] => true
  | l :: ls => match bef.testBit l.i with
    | true => stays bef h ls
    | false => match l.holds h with
      | true => stays bef h ls
      | false => false

noncomputable def runDraw (ex : Exec) (l : List COp) : List Lg → Tr V → List D → H → E :=
  List.rec (motive := fun _ => List Lg → Tr V → List D → H → E) (fun _ t ds h => .ok .normal t ds h)
    (fun c _ ih lg t ds h => COp.rec (motive := fun _ => E) (fun i bef g d k => Bool.rec (motive := fun _ => E) (ih lg (putC t d undef) ds h)
      (CK.rec (motive := fun _ => E) .fail
        (fun f => Option.rec (motive := fun _ => E) .fail (fun v => ih lg (putC t d v) ds h) (f t))
        (fun f => Option.rec (motive := fun _ => E) .fail (fun v => ih (.rd i f t v :: lg) (putC t d v) ds h) (f t h))
        (fun f => Option.rec (motive := fun _ => E) .fail (fun a => Bool.rec (motive := fun _ => E) (R.bindE (fun v h' => ih (.al i h.nx a.o :: lg) (putC t d v) ds h') (newR h a)) .fail (O.live (H.get h h.nx))) (f t))
        (fun f => R.bindE (fun v h => Bool.rec (motive := fun _ => E) .fail (ih lg (putC t d v) ds h) (stays bef h lg)) (f t h))
        (fun f => R.bindE (fun v h => Bool.rec (motive := fun _ => E) .fail (ih lg (putC t d v) ds h) (stays bef h lg)) (f ex t h)) k)
      (wantedC t g)) c) l

def isEf : CK → Bool
  | .ef _ | .call _ | .no => true
  | _ => false
/-- the effects' order is fixed: what stands behind one of them comes behind it -/
def chain : List COp → Option Nat → Bool
  | [], _ => true
  | c :: cs, last => (match last with | none => true | some j => c.bef.testBit j) && chain cs (match isEf c.k with | true => some c.i | false => last)
/-- the last effect that an operation waits for, by its place among the effects -/
def level (effs : List Nat) (bef : Nat) (k : Nat) (acc : Nat) : Nat := match effs with
  | [] => acc
  | e :: es => level es bef (k + 1) (match bef.testBit e with | true => k + 1 | false => acc)
def early (effs : List Nat) (cs : List COp) (k : Nat) : List COp := cs.filter fun c => !isEf c.k && Nat.beq (level effs c.bef 0 0) k
/-- the others of each level behind its effect -/
def sorted (effs : List Nat) (cs : List COp) : List COp → Nat → List COp
  | [], k => early effs cs k
  | e :: es, k => early effs cs k ++ e :: sorted effs cs es (k + 1)
def asap (cs : List COp) : List COp :=
  let effs := cs.filter fun c => isEf c.k
  sorted (effs.map (·.i)) cs effs 0

def tmpOf : Operand → List Tmp
  | .tmp t => [t]
  | _ => []
def looks (ops : List Oper) (o : Oper) : List Tmp :=
  o.op.operands.toList.flatMap tmpOf ++ (match o.guard with
    | some (j, _) => match ops[j]? with
      | some p => p.dst.toList
      | none => []
    | none => [])
/-- each place is written once, and whoever looks at it is ordered against that -/
def onceOk (ws : List (Nat × Nat)) : Bool := decide ((ws.map (·.1)).Nodup)
def lookOk (bs es : List Nat) (i : Nat) (ws : List (Nat × Nat)) (t : Nat) : Bool := ws.all fun (d, j) => d != t || (j != i && ((bs.getD i 0).testBit j || (es.contains j && (bs.getD j 0).testBit i)))
def drawOk (ops : List Oper) (bs es : List Nat) : Bool :=
  let ws := ops.zipIdx.filterMap fun (o, i) => o.dst.map fun d => (d, i)
  onceOk ws && ops.zipIdx.all fun (o, i) => (looks ops o).all fun t => lookOk bs es i ws t
/-- all edges go back, and what comes before is what the edges say -/
def bitsOf (bs : List Nat) : List Edge → Nat → Nat
  | [], s => s
  | e :: l, s => bitsOf bs l (match Region.binds .any e with | true => s ||| (2 ^ e.on ||| bs.getD e.on 0) | false => s)
def edgesOk (bs : List Nat) (ops : List (Oper × Nat)) : Bool := ops.all fun (o, i) =>
  Nat.beq (bs.getD i 0) (bitsOf bs o.after.toList 0) && o.after.toList.all fun e => !(Region.binds .any e) || Nat.blt e.on i
/-- the order in which they are run keeps to that, and each is run once -/
def ordered : List COp → Bool
  | [] => true
  | c :: cs => (cs.all fun c2 => !(c.bef.testBit c2.i) && !(Nat.beq c.i c2.i)) && ordered cs
def covers (m : Nat) (l : List COp) : Bool := (List.range m).all fun i => l.any fun c => Nat.beq c.i i
def noSel : Op → Bool
  | .select .. => false
  | _ => true
def drawnOk (ops : List Oper) (bs : List Nat) (l : List COp) : Bool :=
  chain l none && ordered l && ops.all (fun o => noSel o.op) && covers ops.length l && edgesOk bs ops.zipIdx && drawOk ops bs ((l.filter fun c => isEf c.k).map (·.i))

def idxd (ops : Array Oper) : List (Oper × Nat × Nat) := (ops.toList.zipIdx.zip (Region.before ops).toList).map fun ((o, i), b) => (o, i, b)

def blockE (id : Nat) (e : Ex) (t : Tr V) (ds : List D) (h : H) : E := match e with
  | .exit id' => match Nat.beq id' id with
    | true => .ok .normal t ds h
    | false => .ok (.exit id') t ds h
  | e => .ok e t ds h
def scopeE (e : Ex) (t : Tr V) (ds : List D) (h : H) : E := match e with
  | .goto _ => .fail
  | e => .ok e t ds h

def rfEnd (l r : Pos) (t : Tr V) (ds : List D) (_ : V) (h : H) : E := match h.get l with
  | .loop r' => match r'.st with
    | .busy => .fail
    | _ => match r'.pending with
      | none => .ok .normal t (.collected r :: ds) (h.put l (.loop { r' with st := .exhausted }))
      | some .ret => .ok .ret t (.collected r :: ds) (h.put l (.loop { r' with st := .exhausted }))
      | some (.exit id) => .ok (.exit id) t (.collected r :: ds) (h.put l (.loop { r' with st := .exhausted }))
      | some (.goto id) => .ok (.goto id) t (.collected r :: ds) (h.put l (.loop { r' with st := .exhausted }))
      | _ => .fail
  | _ => .fail

def isRound : List D → Bool
  | .round :: _ => true
  | _ => false
def rfCall (C : Ctx) (ex : Exec) (k : Nat) (params : List Tmp) (assign body : Code) (t : Tr V) (ds : List D) (h : H) : Option V → E
  | none => .fail
  | some fv => match isRound ds with
   | true => .fail
   | false => match h with
    | ⟨r, tr⟩ => (callV C ex fv [.yield r.succ]
        ⟨r.succ.succ, (tr.set .dead r (.defd true)).set .dead r.succ (.loop { st := .ready, pending := none, nt := k, tmps := t, params, assign, body, defers := r })⟩).bindE (rfEnd r.succ r t ds)

noncomputable def seqE (ex : Exec) (k : Nat) (b : Code) (e : E) : E :=
  E.bind (fun x t ds h => Ex.rec (motive := fun _ => E) (ex k b t ds h) (fun id => .ok (.exit id) t ds h) (fun l => .ok (.goto l) t ds h) (.ok .ret t ds h) x) e
def condE (ex : Exec) (k : Nat) (a b : Code) (t : Tr V) (ds : List D) (h : H) : Option V → E
  | some (.bool true) => ex k a t ds h
  | some (.bool false) => ex k b t ds h
  | _ => .fail

inductive CC where
  | mk (f : Exec → Tr V → List D → H → E)

def failC : CC := .mk fun _ _ _ _ => .fail

def compReg (C : Ctx) (k : Nat) (ops : Array Oper) (draw : Bool) : CC := match compOps C k ops.toList (idxd ops) with
  | none => failC
  | some l => match draw with
    | false => .mk fun ex t ds h => runOps ex l t ds h
    | true => match drawnOk ops.toList (Region.before ops).toList (asap l) with
      | true => .mk fun ex t ds h => runDraw ex (asap l) [] t ds h
      | false => failC

def compC (C : Ctx) (k : Nat) : Code → CC
  | .skip => .mk fun _ t ds h => .ok .normal t ds h
  | .label _ => .mk fun _ t ds h => .ok .normal t ds h
  | .seq a b => .mk fun ex t ds h => seqE ex k b (ex k a t ds h)
  | .cond x a b => .mk fun ex t ds h => condE ex k a b t ds h (opd C t x)
  | .block id c => .mk fun ex t ds h => (ex k c t ds h).bind (blockE id)
  | .loop c => .mk fun ex t ds h => seqE ex k (.loop c) (ex k c t ds h)
  | .scope c => .mk fun ex t ds h => (ex k c t ds h).bind scopeE
  | .exit id => .mk fun _ t ds h => .ok (.exit id) t ds h
  | .goto l => .mk fun _ t ds h => .ok (.goto l) t ds h
  | .ret => .mk fun _ t ds h => .ok .ret t ds h
  | .region _ ops draw => compReg C k ops draw
  | .rangeFunc f params assign body => .mk fun ex t ds h => rfCall C ex k params.toList assign body t ds h (opd C t f)
  | .refuse _ => failC

noncomputable def exec (C : Ctx) (n : Nat) : Exec :=
  Nat.rec (motive := fun _ => Exec) (fun _ _ _ _ _ => .fail) (fun _ ex k c t ds h => CC.rec (motive := fun _ => E) (fun f => f ex t ds h) (compC C k c)) n

def call (C : Ctx) (fuel : Nat) (f : FuncId) (args : List V) (h : H) : R :=
  callFn C (exec C fuel) (.func f) args h

end
end Go.AE
