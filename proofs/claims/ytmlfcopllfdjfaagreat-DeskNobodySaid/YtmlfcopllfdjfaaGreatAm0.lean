/- An abstract machine for the program's code, and that it is sound: part Am0. -/
import GoSem.Step
import Derived.Lib.DecodeN
import GoSem.Core.View

namespace Go.Proofs.YtmlfcopllfdjfaaGreat.Am

/-! ### Trees over numbers -/

inductive Tr (α : Type) where
  | e
  | n (l : Tr α) (v : Option α) (r : Tr α)

namespace Tr
variable {α β : Type}

def get : Tr α → Nat → Option α
  | .e, _ => none
  | .n l v r, k => match Nat.beq k 0 with
    | true => v
    | false => match Nat.beq (k % 2) 1 with
      | true => l.get (k / 2)
      | false => r.get (k / 2 - 1)

def setF : Nat → Tr α → Nat → α → Tr α
  | 0, t, _, _ => t
  | f + 1, t, k, x => match t with
    | .e => match Nat.beq k 0 with
      | true => .n .e (some x) .e
      | false => match Nat.beq (k % 2) 1 with
        | true => .n (setF f .e (k / 2) x) none .e
        | false => .n .e none (setF f .e (k / 2 - 1) x)
    | .n l v r => match Nat.beq k 0 with
      | true => .n l (some x) r
      | false => match Nat.beq (k % 2) 1 with
        | true => .n (setF f l (k / 2) x) v r
        | false => .n l v (setF f r (k / 2 - 1) x)

def set (t : Tr α) (k : Nat) (x : α) : Tr α := setF (k + 1) t k x

/-- The same, handed on when it is written out. -/
def setFK : Nat → Tr α → Nat → α → (Tr α → β) → β
  | 0, t, _, _, c => c t
  | f + 1, t, k, x, c => match t with
    | .e => match Nat.beq k 0 with
      | true => c (.n .e (some x) .e)
      | false => match Nat.beq (k % 2) 1 with
        | true => setFK f .e (k / 2) x fun t => c (.n t none .e)
        | false => setFK f .e (k / 2 - 1) x fun t => c (.n .e none t)
    | .n l v r => match Nat.beq k 0 with
      | true => c (.n l (some x) r)
      | false => match Nat.beq (k % 2) 1 with
        | true => setFK f l (k / 2) x fun t => c (.n t v r)
        | false => setFK f r (k / 2 - 1) x fun t => c (.n l v t)

def setK (t : Tr α) (k : Nat) (x : α) (c : Tr α → β) : β := setFK (k + 1) t k x c

end Tr

/-! ### Values -/

inductive ACap where
  | ex (n : Nat)
  | tail (esz : Nat)
  deriving DecidableEq

inductive AV where
  | b (x : Bool)
  | i (k : IntKind) (n : Int)
  | s (l : List Nat)
  | p (id off : Nat)
  | np
  | sl (id off len : Nat) (cap : ACap)
  | zs
  | nsl
  | m (id : Nat)
  | nm
  | f (fn : Fn) (first cap : List AV)
  | nf
  | ifc (t : TypeId) (v : AV)
  | ni
  | ag (cs : List AV)
  | tp (vs : List AV)
  | q (i : Nat)
  deriving Inhabited

def AV.un : AV := .tp []
def AV.cells : AV → List AV
  | .ag cs => cs
  | v => [v]

inductive EqT where
  | int | str | bool | ptr | nils | nilm | nilf
  | ag (fs : List (Nat × Nat × Bool × EqT))
  | no

inductive Rf where
  | t (n : Nat)
  | c (v : AV)

inductive AOp where
  | mv (x : Rf)
  | pick (c a b : Rf)
  | alloc (z : List AV)
  | box (n : Nat) (x : Rf)
  | build (z : List AV) (ps : List (Nat × Nat × Rf))
  | bsl (len : Nat) (z : List AV) (ps : List (Nat × Nat × Rf))
  | ld (agg : Bool) (n : Nat) (a : Rf)
  | st (n : Nat) (a v : Rf)
  | nck (x : Rf)
  | bin (o : BinOp) (e : EqT) (x y : Rf)
  | un (o : UnOp) (x : Rf)
  | cvi (k : IntKind) (x : Rf)
  | cvid (x : Rf)
  | cvsb (x : Rf)
  | cvbs (x : Rf)
  | cvis (x : Rf)
  | mki (t : TypeId) (x : Rf)
  | mkf (fn : Nat) (first cap : List Rf)
  | mkm
  | mks (esz bytes : Nat) (z : List AV) (l c : Rf)
  | slS (x : Rf) (lo hi : Option Rf)
  | slL (esz : Nat) (x : Rf) (lo hi mx : Option Rf)
  | slA (n esz : Nat) (x : Rf) (lo hi : Option Rf)
  | fa (off : Nat) (x : Rf)
  | iaA (len esz : Nat) (x i : Rf)
  | iaL (esz : Nat) (x i : Rf)
  | ixS (x i : Rf)
  | ixA (len esz : Nat) (agg : Bool) (x i : Rf)
  | fld (off sz : Nat) (agg : Bool) (x : Rf)
  | lk (e : EqT) (z : AV) (ok : Bool) (x i : Rf)
  | mu (e : EqT) (m k v : Rf)
  | rng (str : Bool) (x : Rf)
  | nxt (str : Bool) (it : Rf)
  | ent (it : Rf)
  | tas (t : TypeId) (z : AV) (ok : Bool) (x : Rf)
  | xt (x : Rf) (i : Nat)
  | call (f : Nat) (args : List Rf)
  | cald (x : Rf) (args : List Rf)
  | mcl (x : Rf)
  | ibs (x y : Rf)
  | len (k : Nat) (x : Rf)
  | lenc (n : Nat) (x : Rf)
  | cap (x : Rf)
  | app (esz bytes : Nat) (z : List AV) (x y : Rf)
  | appz (esz bytes : Nat) (z : List AV) (x n : Rf)
  | del (e : EqT) (m k : Rf)
  | clr (mp : Bool) (z : List AV) (x : Rf)
  | mnx (mx : Bool) (a b : Rf)
  | cpy (esz : Nat) (d s : Rf)
  | bad (why : Nat)

structure AOper where
  d : Option Nat
  o : AOp
  g : Option (Nat × Bool)

inductive PI where
  | op (o : AOper)
  | fl (o : AOper)
  | chk (o : AOper)

inductive AC where
  | skip
  | reg (ops : List AOper)
  | drw (ps : List PI)
  | seq (a b : AC)
  | cond (x : Rf) (a b : AC)
  | blk (id : Nat) (a : AC)
  | loop (a : AC)
  | rf (x : Rf) (ps : List Nat) (asg body : AC)
  | exit (id : Nat)
  | ret
  | bad (why : Nat)

inductive ARes where
  | t (n : Nat)
  | c (n : Nat) (agg : Bool) (sz : Nat)

structure AF where
  n : Nat
  res : List ARes
  body : AC

/-! ### The heap -/

inductive AJ where
  | norm
  | exit (id : Nat)
  | ret
  deriving DecidableEq

inductive AO where
  | cells (n : Nat) (tail fz : Bool) (pd : Nat) (d : List AV) (t : Tr AV)
  | dead
  | map (es : List (AV × AV × Nat)) (clock : Nat)
  | sit (s : List Nat) (pos : Nat)
  | mit (m : Option Nat) (since : Nat) (seen : List Nat) (stepped : Nat)
  | loop (st : LoopState) (pend : AJ) (n : Nat) (t : Tr AV) (ps : List Nat) (asg body : AC) (defers : Nat)
  | dfr (taken : Bool)

structure AH where
  nx : Nat
  o : Tr AO

/-- What a run may use: code; what is proved of calls; what is known of single values. -/
structure Env where
  fn : Nat → Option AF
  ext : Nat → List AV → AH → Option (AV × AH)
  fact : Nat → List AV → Option AV

/-- Code alone. -/
def Env.of (fn : Nat → Option AF) : Env := ⟨fn, fun _ _ _ => none, fun _ _ => none⟩

inductive Res (α : Type) where
  | ok (a : α) (h : AH)
  | err (e : Nat)
  | ask (n : Nat) (k : Nat → Res α)

def Res.bind {α β : Type} (r : Res α) (f : α → AH → Res β) : Res β :=
  match r with
  | .ok a h => f a h
  | .err e => .err e
  | .ask n k => .ask n fun i => (k i).bind f

/-! ### Written out -/

def natK {β : Type} (n : Nat) (c : Nat → β) : β := match n with
  | 0 => c 0
  | m + 1 => c (m + 1)

def intK {β : Type} (n : Int) (c : Int → β) : β := match n with
  | .ofNat m => natK m fun m => c (.ofNat m)
  | .negSucc m => natK m fun m => c (.negSucc m)

def boolK {β : Type} (x : Bool) (c : Bool → β) : β := match x with
  | true => c true
  | false => c false

def listK {α β : Type} (l : List α) (c : List α → β) : β := match l with
  | [] => c []
  | a :: l => listK l fun l => c (a :: l)

def natsK {β : Type} (l : List Nat) (c : List Nat → β) : β := match l with
  | [] => c []
  | a :: l => natK a fun a => natsK l fun l => c (a :: l)

/-! ### Lists of numbers as strings -/

def seq : List Nat → List Nat → Bool
  | [], [] => true
  | a :: x, b :: y => match Nat.beq a b with
    | true => seq x y
    | false => false
  | _, _ => false

def slt : List Nat → List Nat → Bool
  | _, [] => false
  | [], _ :: _ => true
  | a :: x, b :: y => match Nat.blt a b with
    | true => true
    | false => match Nat.beq a b with
      | true => slt x y
      | false => false

/-! ### Operations on values -/

def vi {β : Type} (k : IntKind) (n : Int) (c : Option AV → β) : β := intK n fun n => c (some (.i k n))

def ishift (o : BinOp) (k : IntKind) (a b : Int) : Option AV :=
  match decide (b < 0) with
  | true => none
  | false => match o with
    | .shl => vi k (k.wrap (a * 2 ^ (min b.toNat k.bits))) id
    | .shr => vi k (a.fdiv (2 ^ (min b.toNat k.bits))) id
    | _ => none

def iarith (o : BinOp) (k : IntKind) (a b : Int) : Option AV :=
  match o with
  | .add => vi k (k.wrap (a + b)) id
  | .sub => vi k (k.wrap (a - b)) id
  | .mul => vi k (k.wrap (a * b)) id
  | .quo => match decide (b = 0) with
    | true => none
    | false => vi k (k.wrap (a.tdiv b)) id
  | .rem => match decide (b = 0) with
    | true => none
    | false => vi k (a.tmod b) id
  | .and => vi k (k.wrap (BitVec.ofInt k.bits a &&& BitVec.ofInt k.bits b).toNat) id
  | .or => vi k (k.wrap (BitVec.ofInt k.bits a ||| BitVec.ofInt k.bits b).toNat) id
  | .xor => vi k (k.wrap (BitVec.ofInt k.bits a ^^^ BitVec.ofInt k.bits b).toNat) id
  | .andNot => vi k (k.wrap (BitVec.ofInt k.bits a &&& ~~~ BitVec.ofInt k.bits b).toNat) id
  | .eql => boolK (decide (a = b)) fun x => some (.b x)
  | .neq => boolK (!decide (a = b)) fun x => some (.b x)
  | .lss => boolK (decide (a < b)) fun x => some (.b x)
  | .leq => boolK (decide (a ≤ b)) fun x => some (.b x)
  | .gtr => boolK (decide (b < a)) fun x => some (.b x)
  | .geq => boolK (decide (b ≤ a)) fun x => some (.b x)
  | _ => none

def sarith (o : BinOp) (a b : List Nat) : Option AV :=
  match o with
  | .add => natsK (a ++ b) fun l => match Nat.ble l.length 9223372036854775807 with
    | true => some (.s l)
    | false => none
  | .eql => boolK (seq a b) fun x => some (.b x)
  | .neq => boolK (!seq a b) fun x => some (.b x)
  | .lss => boolK (slt a b) fun x => some (.b x)
  | .leq => boolK (slt a b || seq a b) fun x => some (.b x)
  | .gtr => boolK (!(slt a b || seq a b)) fun x => some (.b x)
  | .geq => boolK (!slt a b) fun x => some (.b x)
  | _ => none

def kindEq : IntKind → IntKind → Bool
  | .i8, .i8 | .i16, .i16 | .i32, .i32 | .i64, .i64 | .u8, .u8 | .u16, .u16 | .u32, .u32 | .u64, .u64 => true
  | _, _ => false

/-- A part of a struct or an array. -/
def apart (agg : Bool) (off sz : Nat) (cs : List AV) : Option AV :=
  match agg with
  | true => match Nat.ble (off + sz) cs.length with
    | true => listK ((cs.drop off).take sz) fun l => some (.ag l)
    | false => none
  | false => (cs.drop off).head?

mutual
/-- Are two values the same, by '==' at a type? -/
def aeq : EqT → AV → AV → Option Bool
  | .int, .i k a, .i k' b => match kindEq k k' with
    | true => some (decide (a = b))
    | false => none
  | .str, .s a, .s b => some (seq a b)
  | .bool, .b a, .b b => some (a == b)
  | .ptr, .np, .np => some true
  | .ptr, .np, .p _ _ => some false
  | .ptr, .p _ _, .np => some false
  | .ptr, .p a x, .p b y => match Nat.beq a b with
    | true => some (Nat.beq x y)
    | false => none
  | .nils, .nsl, .nsl => some true
  | .nils, .nsl, .sl .. => some false
  | .nils, .sl .., .nsl => some false
  | .nils, .nsl, .zs => some false
  | .nils, .zs, .nsl => some false
  | .nilm, .nm, .nm => some true
  | .nilm, .nm, .m _ => some false
  | .nilm, .m _, .nm => some false
  | .nilf, .nf, .nf => some true
  | .nilf, .nf, .f .. => some false
  | .nilf, .f .., .nf => some false
  | .ag fs, .ag x, .ag y => aeqs fs x y
  | _, _, _ => none
def aeqs : List (Nat × Nat × Bool × EqT) → List AV → List AV → Option Bool
  | [], _, _ => some true
  | (off, sz, agg, e) :: fs, x, y => match apart agg off sz x, apart agg off sz y with
    | some a, some b => match aeq e a b with
      | some true => aeqs fs x y
      | some false => some false
      | none => none
    | _, _ => none
end

def abin (o : BinOp) (e : EqT) (x y : AV) : Option AV :=
  match x, y with
  | .i k a, .i k' b => match o with
    | .shl => ishift .shl k a b
    | .shr => ishift .shr k a b
    | o => match kindEq k k' with
      | true => iarith o k a b
      | false => none
  | .s a, .s b => sarith o a b
  | x, y => match o with
    | .eql => match aeq e x y with
      | some r => boolK r fun r => some (.b r)
      | none => none
    | .neq => match aeq e x y with
      | some r => boolK (!r) fun r => some (.b r)
      | none => none
    | _ => none

def aun (o : UnOp) (x : AV) : Option AV :=
  match o, x with
  | .not, .b x => boolK (!x) fun x => some (.b x)
  | .neg, .i k n => vi k (k.wrap (0 - n)) id
  | .xor, .i k n => iarith .xor k (if k.signed then -1 else k.max) n
  | _, _ => none

def afill (cells : List AV) : List (Nat × Nat × AV) → Option (List AV)
  | [] => some cells
  | (off, sz, v) :: ps => match Nat.beq v.cells.length sz, Nat.ble (off + sz) cells.length with
    | true, true => listK (cells.take off ++ v.cells ++ cells.drop (off + sz)) fun cells => afill cells ps
    | _, _ => none

def agetI (l : List AV) (i : Nat) : Option AV := match l with
  | [] => none
  | a :: l => match i with
    | 0 => some a
    | i + 1 => agetI l i

/-! ### Cells -/

def cget (n pd : Nat) (d : List AV) (t : Tr AV) (off : Nat) : Option AV :=
  match Nat.blt off n with
  | true => match t.get off with
    | some v => some v
    | none => match d with
      | [] => none
      | d => agetI d (off % pd)
  | false => none

def cgets (n pd : Nat) (d : List AV) (t : Tr AV) (off : Nat) : Nat → Option (List AV)
  | 0 => some []
  | k + 1 => match cget n pd d t off with
    | some v => match cgets n pd d t (off + 1) k with
      | some l => some (v :: l)
      | none => none
    | none => none

def oneCell : AV → Bool
  | .ag _ => false
  | .tp _ => false
  | _ => true

def csetsK {β : Type} (bad : β) (n : Nat) (t : Tr AV) (off : Nat) (l : List AV) (c : Tr AV → β) : β :=
  match l with
  | [] => c t
  | v :: l => match Nat.blt off n, oneCell v with
    | true, true => natK off fun off => t.setK off v fun t => csetsK bad n t (off + 1) l c
    | _, _ => bad

/-- So many cells from a place on. -/
def hload (h : AH) (id off k : Nat) : Option (List AV) :=
  match h.o.get id with
  | some (.cells n _ _ pd d t) => cgets n pd d t off k
  | _ => none

def hstore {α : Type} (h : AH) (id off : Nat) (l : List AV) (c : AH → Res α) : Res α :=
  match l with
  | [] => c h
  | l => match h.o.get id with
    | some (.cells n tail false pd d t) => csetsK (.err 1) n t off l fun t => h.o.setK id (.cells n tail false pd d t) fun o => c ⟨h.nx, o⟩
    | _ => .err 2

def hnew {α : Type} (h : AH) (o : AO) (c : Nat → AH → Res α) : Res α :=
  natK h.nx fun id => natK (id + 1) fun nx => h.o.setK id o fun t => c id ⟨nx, t⟩

def hset {α : Type} (h : AH) (id : Nat) (o : AO) (c : AH → Res α) : Res α :=
  h.o.setK id o fun t => c ⟨h.nx, t⟩

def row (d : List AV) : AO := .cells d.length false false d.length d .e

inductive Nx where
  | v (a : AV)
  | call (f : Nat) (args : List AV)
  | yld (l : Nat) (args : List AV)

def toNx (h : AH) (a : Option AV) : Res Nx := match a with
  | some a => .ok (.v a) h
  | none => .err 3

def intOf : AV → Option Int
  | .i _ n => some n
  | _ => none

/-- A bound of a slice expression: not below 0, not above 'most'. -/
def bnd (x : Option AV) (dflt most : Nat) : Option Nat := match x with
  | none => some dflt
  | some (.i _ n) => match n with
    | .ofNat m => match Nat.ble m most with
      | true => some m
      | false => none
    | .negSucc _ => none
  | _ => none

mutual
def veq : AV → AV → Bool
  | .b x, .b y => x == y
  | .i k a, .i k' b => kindEq k k' && decide (a = b)
  | .s a, .s b => seq a b
  | .p a x, .p b y => Nat.beq a b && Nat.beq x y
  | .np, .np | .nsl, .nsl | .zs, .zs | .nm, .nm | .nf, .nf | .ni, .ni => true
  | .sl a x l c, .sl b y m d => Nat.beq a b && Nat.beq x y && Nat.beq l m && decide (c = d)
  | .m a, .m b => Nat.beq a b
  | .f fn a b, .f fn' a' b' => decide (fn = fn') && veqs a a' && veqs b b'
  | .ifc t v, .ifc t' v' => Nat.beq t t' && veq v v'
  | .ag a, .ag b => veqs a b
  | .tp a, .tp b => veqs a b
  | .q a, .q b => Nat.beq a b
  | _, _ => false
def veqs : List AV → List AV → Bool
  | [], [] => true
  | a :: x, b :: y => veq a b && veqs x y
  | _, _ => false
end

def keyIdx (e : EqT) (k : AV) : List (AV × AV × Nat) → Nat → Option (Option (Nat × AV))
  | [], _ => some none
  | (k', v, _) :: es, i => match aeq e k k' with
    | some true => some (some (i, v))
    | some false => keyIdx e k es (i + 1)
    | none => none

def esSet (i : Nat) (k v : AV) : List (AV × AV × Nat) → List (AV × AV × Nat)
  | [] => []
  | (k', v', b) :: es => match i with
    | 0 => (k, v, b) :: es
    | i + 1 => (k', v', b) :: esSet i k v es

def esDel (i : Nat) : List (AV × AV × Nat) → List (AV × AV × Nat)
  | [] => []
  | x :: es => match i with
    | 0 => es
    | i + 1 => x :: esDel i es

/-- A key that can be looked at to its bottom. -/
def kck (e : EqT) (k : AV) : Bool := match aeq e k k with
  | some true => true
  | _ => false

def flat1 : AV → Bool
  | .i _ _ | .s _ | .b _ => true
  | _ => false

/-- A number, a text, a bool, or a struct of such. -/
def flat : AV → Bool
  | .ag l => l.all flat1
  | v => flat1 v

def esKey (i : Nat) : List (AV × AV × Nat) → Option AV
  | [] => none
  | (k, _, _) :: es => match i with
    | 0 => some k
    | i + 1 => esKey i es

def repl (n : Nat) (z : List AV) : List AV := match n with
  | 0 => []
  | n + 1 => z ++ repl n z

def tcells (l : List AV) : AO := .cells l.length true false l.length l .e

/-- append of cells. -/
def aappend (esz bytes : Nat) (h : AH) (x : AV) (new : List AV) (k : Nat) : Res Nx :=
  match x with
  | .nsl => match k with
    | 0 => .ok (.v .nsl) h
    | k + 1 => match Nat.ble ((k + 1) * bytes) 140737488355328 with
      | true => hnew h (tcells new) fun id h => .ok (.v (.sl id 0 (k + 1) (.tail esz))) h
      | false => .err 4
  | .zs => match k with
    | 0 => .ok (.v .zs) h
    | _ + 1 => .err 9
  | .sl id off len (.ex c) => natK (len + k) fun need => match Nat.ble need c with
    | true => hstore h id (off + len * esz) new fun h => .ok (.v (.sl id off need (.ex c))) h
    | false => match Nat.ble (need * bytes) 140737488355328, hload h id off (len * esz) with
      | true, some old => listK (old ++ new) fun l => hnew h (tcells l) fun id h => .ok (.v (.sl id 0 need (.tail esz))) h
      | _, _ => .err 5
  | .sl id off len (.tail e) => match Nat.beq e esz, h.o.get id with
    | true, some (.cells n _ false pd d t) => natK (len + k) fun need => match Nat.ble (off + need * esz) n with
      | true => hstore h id (off + len * esz) new fun h => .ok (.v (.sl id off need (.tail esz))) h
      | false => match Nat.ble (need * bytes) 140737488355328 && new.all oneCell, cgets n pd d t off (len * esz) with
        | true, some old => listK (old ++ new) fun l => hset h id .dead fun h => hnew h (tcells l) fun id h => .ok (.v (.sl id 0 need (.tail esz))) h
        | _, _ => .err 6
    | _, _ => .err 7
  | _ => .err 8

def cellsOfSl (h : AH) (esz : Nat) (x : AV) : Option (Nat × List AV) := match x with
  | .nsl => some (0, [])
  | .zs => some (0, [])
  | .sl id off len _ => match hload h id off (len * esz) with
    | some l => some (len, l)
    | none => none
  | .s l => match Nat.beq esz 1 with
    | true => some (l.length, l.map fun n => .i .u8 (Int.ofNat n))
    | false => none
  | _ => none

/-- Where in a text a byte stands. -/
def sfind (c : Nat) : List Nat → Nat → Option Nat
  | [], _ => none
  | a :: l, i => match Nat.beq a c with
    | true => some i
    | false => sfind c l (i + 1)

def bytesOf : List AV → Option (List Nat)
  | [] => some []
  | .i .u8 (.ofNat n) :: l => match Nat.blt n 256, bytesOf l with
    | true, some l => some (n :: l)
    | _, _ => none
  | _ => none

/-- UTF-8 of texts of one-byte signs. -/
def utf1 (n : Int) : Option (List Nat) := match n with
  | .ofNat m => match Nat.blt m 128 with
    | true => some [m]
    | false => none
  | _ => none

/-- The rune at the front, and how many bytes it has. -/
def rune (l : List Nat) : Nat × Nat := Lib.decodeN l.length (l.getD 0 0) (l.getD 1 0) (l.getD 2 0) (l.getD 3 0)

section
variable (ρ : Rf → AV)

def ro (x : Option Rf) : Option AV := match x with
  | some x => some (ρ x)
  | none => none

def refs : List Rf → List AV
  | [] => []
  | x :: l => ρ x :: refs l

def parts3 : List (Nat × Nat × Rf) → List (Nat × Nat × AV)
  | [] => []
  | (a, b, x) :: l => (a, b, ρ x) :: parts3 l

def entries (h : AH) (x : AV) : Option (List (AV × AV × Nat)) := match x with
  | .nm => some []
  | .m id => match h.o.get id with
    | some (.map es _) => some es
    | _ => none
  | _ => none

/-- One operation. -/
def xop (o : AOp) (h : AH) : Res Nx :=
  match o with
  | .mv x => .ok (.v (ρ x)) h
  | .pick c a b => match ρ c with
    | .b true => .ok (.v (ρ a)) h
    | .b false => .ok (.v (ρ b)) h
    | _ => .err 10
  | .alloc z => hnew h (row z) fun id h => .ok (.v (.p id 0)) h
  | .box n x => match Nat.beq (ρ x).cells.length n with
    | true => hnew h (row (ρ x).cells) fun id h => .ok (.v (.p id 0)) h
    | false => .err 11
  | .build z ps => match afill z (parts3 ρ ps) with
    | some l => .ok (.v (.ag l)) h
    | none => .err 12
  | .bsl len z ps => match afill (repl len z) (parts3 ρ ps) with
    | some l => hnew h (row l) fun id h => .ok (.v (.sl id 0 len (.ex len))) h
    | none => .err 13
  | .ld agg n a => match ρ a with
    | .p id off => (match agg with
      | true => (match hload h id off n with
        | some l => .ok (.v (.ag l)) h
        | none => .err 14)
      | false => (match hload h id off 1 with
        | some [v] => .ok (.v v) h
        | _ => .err 15))
    | _ => .err 16
  | .st n a v => match ρ a, Nat.beq (ρ v).cells.length n with
    | .p id off, true => hstore h id off (ρ v).cells fun h => .ok (.v .un) h
    | _, _ => .err 17
  | .nck x => match ρ x with
    | .p id off => .ok (.v (.p id off)) h
    | .f (.func g) a b => .ok (.v (.f (.func g) a b)) h
    | .f (.yield g) a b => .ok (.v (.f (.yield g) a b)) h
    | _ => .err 18
  | .bin o e x y => toNx h (abin o e (ρ x) (ρ y))
  | .un o x => toNx h (aun o (ρ x))
  | .cvi k x => match ρ x with
    | .i _ n => toNx h (vi k (k.wrap n) id)
    | _ => .err 19
  | .cvid x => match ρ x with
    | .s l => .ok (.v (.s l)) h
    | _ => .err 20
  | .cvsb x => match ρ x with
    | .s l => (match Nat.ble l.length 140737488355328 with
      | true => hnew h (.cells l.length true false l.length (l.map fun n => .i .u8 (Int.ofNat n)) .e) fun id h => .ok (.v (.sl id 0 l.length (.tail 1))) h
      | false => .err 21)
    | _ => .err 22
  | .cvbs x => match ρ x with
    | .nsl => .ok (.v (.s [])) h
    | .zs => .ok (.v (.s [])) h
    | .sl id off len _ => (match hload h id off len with
      | some l => (match bytesOf l with
        | some l => natsK l fun l => .ok (.v (.s l)) h
        | none => .err 23)
      | none => .err 24)
    | _ => .err 25
  | .cvis x => match ρ x with
    | .i _ n => (match utf1 n with
      | some l => natsK l fun l => .ok (.v (.s l)) h
      | none => .err 26)
    | _ => .err 27
  | .mki t x => .ok (.v (.ifc t (ρ x))) h
  | .mkf fn a b => listK (refs ρ a) fun a => listK (refs ρ b) fun b => .ok (.v (.f (.func fn) a b)) h
  | .mkm => hnew h (.map [] 0) fun id h => .ok (.v (.m id)) h
  | .mks esz bytes z l c => match ρ l, ρ c with
    | .i .i64 (.ofNat l), .i .i64 (.ofNat c) => (match Nat.ble (bytes * c) 281474976710656, Nat.ble l c, Nat.ble c 4611686018427387904 with
      | true, true, true => natK l fun l => natK c fun c => hnew h (.cells (c * esz) false false esz z .e) fun id h => .ok (.v (.sl id 0 l (.ex c))) h
      | _, _, _ => .err 28)
    | _, _ => .err 29
  | .slS x lo hi => match ρ x with
    | .s l => (match bnd (ro ρ hi) l.length l.length with
      | some b => (match bnd (ro ρ lo) 0 b with
        | some a => natsK ((l.drop a).take (b - a)) fun l => .ok (.v (.s l)) h
        | none => .err 30)
      | none => .err 31)
    | _ => .err 32
  | .slL esz x lo hi mx => match ρ x with
    | .nsl => (match bnd (ro ρ mx) 0 0, bnd (ro ρ hi) 0 0, bnd (ro ρ lo) 0 0 with
      | some 0, some 0, some 0 => .ok (.v .nsl) h
      | _, _, _ => .err 33)
    | .sl id off len (.ex c) => (match bnd (ro ρ mx) c c with
      | some m => (match bnd (ro ρ hi) len m with
        | some b => (match bnd (ro ρ lo) 0 b with
          | some a => (match Nat.beq a m with
            | true => (match Nat.beq b m with
              | true => .ok (.v (.sl id off 0 (.ex 0))) h
              | false => .err 122)
            | false => natK (off + a * esz) fun off => natK (b - a) fun l => natK (m - a) fun c => .ok (.v (.sl id off l (.ex c))) h)
          | none => .err 34)
        | none => .err 35)
      | none => .err 36)
    | .sl id off len (.tail e) => (match ro ρ mx, h.o.get id, Nat.beq e esz with
      | none, some (.cells n _ _ _ _ _), true => (match Nat.blt 0 esz, Nat.ble (off + len * esz) n with
        | true, true => (match bnd (ro ρ hi) len ((n - off) / esz) with
          | some b => (match bnd (ro ρ lo) 0 b with
            | some a => (match Nat.blt (off + a * esz) n with
              | true => natK (off + a * esz) fun off => natK (b - a) fun l => .ok (.v (.sl id off l (.tail esz))) h
              | false => .ok (.v .zs) h)
            | none => .err 38)
          | none => .err 39)
        | _, _ => .err 40)
      | some (.i _ (.ofNat m)), some (.cells n _ _ _ _ _), true => (match Nat.blt 0 esz, Nat.ble (off + m * esz) n with
        | true, true => (match bnd (ro ρ hi) len m with
          | some b => (match bnd (ro ρ lo) 0 b with
            | some a => (match Nat.blt a m with
              | true => natK (off + a * esz) fun off => natK (b - a) fun l => natK (m - a) fun c => .ok (.v (.sl id off l (.ex c))) h
              | false => .err 41)
            | none => .err 42)
          | none => .err 43)
        | _, _ => .err 44)
      | _, _, _ => .err 45)
    | _ => .err 46
  | .slA n esz x lo hi => match ρ x with
    | .p id off => (match bnd (ro ρ hi) n n with
      | some b => (match bnd (ro ρ lo) 0 b with
        | some a => (match Nat.beq a n with
          | true => .ok (.v (.sl id off 0 (.ex 0))) h
          | false => natK (off + a * esz) fun off => natK (b - a) fun l => natK (n - a) fun c => .ok (.v (.sl id off l (.ex c))) h)
        | none => .err 47)
      | none => .err 48)
    | _ => .err 49
  | .fa off x => match ρ x with
    | .p id o => natK (o + off) fun o => .ok (.v (.p id o)) h
    | _ => .err 50
  | .iaA len esz x i => match ρ x, ρ i with
    | .p id off, .i _ (.ofNat i) => (match Nat.blt i len with
      | true => natK (off + i * esz) fun o => .ok (.v (.p id o)) h
      | false => .err 51)
    | _, _ => .err 52
  | .iaL esz x i => match ρ x, ρ i with
    | .sl id off len _, .i _ (.ofNat i) => (match Nat.blt i len with
      | true => natK (off + i * esz) fun o => .ok (.v (.p id o)) h
      | false => .err 53)
    | _, _ => .err 54
  | .ixS x i => match ρ x, ρ i with
    | .s l, .i _ (.ofNat i) => (match (l.drop i).head? with
      | some b => natK b fun b => .ok (.v (.i .u8 b)) h
      | none => .err 55)
    | _, _ => .err 56
  | .ixA len esz agg x i => match ρ x, ρ i with
    | .ag cs, .i _ (.ofNat i) => (match Nat.blt i len with
      | true => toNx h (apart agg (i * esz) esz cs)
      | false => .err 57)
    | _, _ => .err 58
  | .fld off sz agg x => match ρ x with
    | .ag cs => toNx h (apart agg off sz cs)
    | _ => .err 59
  | .lk e z ok x i => match entries h (ρ x), kck e (ρ i) with
    | some es, true => (match keyIdx e (ρ i) es 0 with
      | some (some (_, v)) => (match ok with
        | true => .ok (.v (.tp [v, .b true])) h
        | false => .ok (.v v) h)
      | some none => (match ok with
        | true => .ok (.v (.tp [z, .b false])) h
        | false => .ok (.v z) h)
      | none => .err 60)
    | _, _ => .err 61
  | .mu e m k v => match ρ m, kck e (ρ k) with
    | .m id, true => (match h.o.get id with
      | some (.map es clock) => (match keyIdx e (ρ k) es 0 with
        | some (some (i, _)) => (match esKey i es with
          | some k' => (match veq k' (ρ k), flat (ρ k) with
            | true, true => listK (esSet i (ρ k) (ρ v) es) fun es => hset h id (.map es clock) fun h => .ok (.v .un) h
            | _, _ => .err 120)
          | none => .err 121)
        | some none => listK (es ++ [(ρ k, ρ v, clock)]) fun es => natK (clock + 1) fun clock => hset h id (.map es clock) fun h => .ok (.v .un) h
        | none => .err 62)
      | _ => .err 63)
    | _, _ => .err 64
  | .rng str x => match str, ρ x with
    | true, .s l => hnew h (.sit l 0) fun id h => .ok (.v (.p id 0)) h
    | false, .nm => hnew h (.mit none 0 [] 0) fun id h => .ok (.v (.p id 0)) h
    | false, .m m => (match h.o.get m with
      | some (.map _ clock) => hnew h (.mit (some m) clock [] clock) fun id h => .ok (.v (.p id 0)) h
      | _ => .err 65)
    | _, _ => .err 66
  | .nxt str it => match ρ it with
    | .p r 0 => (match h.o.get r, str with
      | some (.sit l pos), true => (match l with
        | [] => .ok (.v (.tp [.b false])) h
        | c :: l => (match Nat.blt c 128 with
          | true => natK (pos + 1) fun pos' => hset h r (.sit l pos') fun h => .ok (.v (.tp [.b true, .i .i64 pos, .i .i32 c])) h
          | false => match rune (c :: l) with
            | (u, k) => natK (pos + k) fun pos' => natsK ((c :: l).drop k) fun l' => hset h r (.sit l' pos') fun h => .ok (.v (.tp [.b true, .i .i64 pos, .i .i32 u])) h))
      | some (.mit none _ _ _), false => .ok (.v (.tp [.b false])) h
      | some (.mit (some m) since seen last), false => (match h.o.get m with
        | some (.map es clock) =>
          (match !seen.isEmpty && !es.isEmpty && es.all (fun e => Nat.ble last e.2.2) with
          | true => .err 68
          | false =>
            let left := es.filter fun e => !seen.contains e.2.2
            let old := left.filter fun e => Nat.blt e.2.2 since
            let new := left.filter fun e => Nat.ble since e.2.2
            let pickE (e : AV × AV × Nat) : Res Nx := hset h r (.mit (some m) since (seen ++ [e.2.2]) clock) fun h => .ok (.v (.tp [.b true, e.1, e.2.1])) h
            (match old, new with
            | [], [] => .ok (.v (.tp [.b false])) h
            | [e], [] => pickE e
            | _, _ => .err 69))
        | _ => .err 70)
      | _, _ => .err 71)
    | _ => .err 72
  | .ent it => match ρ it with
    | .p r 0 => (match h.o.get r with
      | some (.mit (some m) _ seen stepped) => (match seen.getLast?, h.o.get m with
        | some stamp, some (.map es clock) => (match Nat.beq clock stepped, es.find? (fun e => Nat.beq e.2.2 stamp) with
          | true, some e => .ok (.v (.tp [e.1, e.2.1])) h
          | _, _ => .err 73)
        | _, _ => .err 74)
      | _ => .err 75)
    | _ => .err 76
  | .tas t z ok x => match ρ x with
    | .ifc u v => (match Nat.beq u t, ok with
      | true, true => .ok (.v (.tp [v, .b true])) h
      | true, false => .ok (.v v) h
      | false, true => .ok (.v (.tp [z, .b false])) h
      | false, false => .err 77)
    | _ => .err 78
  | .xt x i => match ρ x with
    | .tp vs => toNx h (agetI vs i)
    | _ => .err 79
  | .call f args => listK (refs ρ args) fun args => .ok (.call f args) h
  | .cald x args => listK (refs ρ args) fun args => match ρ x with
    | .f (.func g) first cap => listK (first ++ args ++ cap) fun args => .ok (.call g args) h
    | .f (.yield l) [] [] => .ok (.yld l args) h
    | _ => .err 80
  | .mcl x => match ρ x with
    | .ifc t (.m id) => (match h.o.get id with
      | some (.map es clock) => hnew h (.map es clock) fun id h => .ok (.v (.ifc t (.m id))) h
      | _ => .err 81)
    | _ => .err 82
  | .ibs x y => match ρ x, ρ y with
    | .s l, .i .u8 (.ofNat c) => (match Nat.blt c 256, sfind c l 0 with
      | true, some i => natK i fun i => .ok (.v (.i .i64 i)) h
      | true, none => .ok (.v (.i .i64 (-1))) h
      | false, _ => .err 83)
    | _, _ => .err 84
  | .len k x => match k, ρ x with
    | 0, .s l => natK l.length fun n => .ok (.v (.i .i64 n)) h
    | 1, .nsl => .ok (.v (.i .i64 0)) h
    | 1, .zs => .ok (.v (.i .i64 0)) h
    | 1, .sl _ _ n _ => .ok (.v (.i .i64 n)) h
    | 2, .nm => .ok (.v (.i .i64 0)) h
    | 2, .m id => (match h.o.get id with
      | some (.map es _) => natK es.length fun n => .ok (.v (.i .i64 n)) h
      | _ => .err 85)
    | _, _ => .err 86
  | .lenc n _ => .ok (.v (.i .i64 n)) h
  | .cap x => match ρ x with
    | .nsl => .ok (.v (.i .i64 0)) h
    | .sl _ _ _ (.ex c) => .ok (.v (.i .i64 c)) h
    | _ => .err 87
  | .app esz bytes _ x y => match cellsOfSl h esz (ρ y) with
    | some (k, l) => listK l fun l => aappend esz bytes h (ρ x) l k
    | none => .err 88
  | .appz esz bytes z x n => match ρ n with
    | .i _ (.ofNat k) => (match Nat.ble (k * bytes) 140737488355328, Nat.ble k 4611686018427387904 with
      | true, true => listK (repl k z) fun l => aappend esz bytes h (ρ x) l k
      | _, _ => .err 89)
    | _ => .err 90
  | .del e m k => match ρ m, kck e (ρ k) with
    | .m id, true => (match h.o.get id with
      | some (.map es clock) => (match keyIdx e (ρ k) es 0 with
        | some (some (i, _)) => listK (esDel i es) fun es => hset h id (.map es clock) fun h => .ok (.v .un) h
        | some none => .ok (.v .un) h
        | none => .err 91)
      | _ => .err 92)
    | _, _ => .err 93
  | .clr mp z x => match mp, ρ x with
    | true, .nm => .ok (.v .un) h
    | false, .nsl => .ok (.v .un) h
    | false, .zs => .ok (.v .un) h
    | true, .m id => (match h.o.get id with
      | some (.map _ clock) => hset h id (.map [] clock) fun h => .ok (.v .un) h
      | _ => .err 94)
    | false, .sl id off len _ => hstore h id off (repl len z) fun h => .ok (.v .un) h
    | _, _ => .err 95
  | .mnx mx a b => match ρ a, ρ b with
    | .i k x, .i k' y => (match kindEq k k', mx with
      | true, false => .ok (.v (.i k (match decide (y < x) with | true => y | false => x))) h
      | true, true => .ok (.v (.i k (match decide (x < y) with | true => y | false => x))) h
      | false, _ => .err 96)
    | _, _ => .err 97
  | .cpy esz d s => match ρ d, cellsOfSl h esz (ρ s) with
    | .nsl, some _ => .ok (.v (.i .i64 0)) h
    | .sl id off len _, some (k, l) => natK (Nat.min k len) fun n => hstore h id off (l.take (n * esz)) fun h => .ok (.v (.i .i64 n)) h
    | _, _ => .err 98
  | .bad why => .err (1000 + why)

end

/-! ### What is known of single values -/

def binNo : BinOp → Nat
  | .add => 1 | .sub => 2 | .mul => 3 | .quo => 4 | .rem => 5 | .and => 6 | .or => 7 | .xor => 8 | .shl => 9 | .shr => 10 | .andNot => 11
  | .eql => 12 | .neq => 13 | .lss => 14 | .leq => 15 | .gtr => 16 | .geq => 17

def unNo : UnOp → Nat
  | .neg => 1 | .xor => 2 | .not => 3 | .plus => 4

def kindNo : IntKind → Nat
  | .i8 => 1 | .i16 => 2 | .i32 => 3 | .i64 => 4 | .u8 => 5 | .u16 => 6 | .u32 => 7 | .u64 => 8

def eqNo : EqT → Nat
  | .int => 1 | .str => 2 | .bool => 3 | .ptr => 4 | .nils => 5 | .nilm => 6 | .nilf => 7 | .ag _ => 8 | .no => 0

/-- The number of an operation of which a fact may tell, and what it looks at. -/
def fcode : AOp → Option (Nat × List Rf)
  | .pick c a b => some (1, [c, a, b])
  | .un o x => some (10 + unNo o, [x])
  | .cvi k x => some (20 + kindNo k, [x])
  | .len k x => some (40 + k, [x])
  | .ixS x i => some (50, [x, i])
  | .slS x none none => some (60, [x])
  | .slS x (some a) none => some (61, [x, a])
  | .slS x none (some b) => some (62, [x, b])
  | .slS x (some a) (some b) => some (63, [x, a, b])
  | .mnx false a b => some (70, [a, b])
  | .mnx true a b => some (71, [a, b])
  | .cvbs x => some (90, [x])
  | .nck x => some (91, [x])
  | .bin o e x y => some (1000 + 100 * eqNo e + binNo o, [x, y])
  | .iaL esz x i => some (3000 + esz, [x, i])
  | .fa off x => some (10000 + off, [x])
  | .ld false _ x => some (80, [x])
  | .ld true n x => some (20000 + n, [x])
  | _ => none

/-- One operation, or what is known of it. -/
def xopE (fact : Nat → List AV → Option AV) (ρ : Rf → AV) (o : AOp) (h : AH) : Res Nx := match fcode o with
  | none => xop ρ o h
  | some (c, l) => match fact c (refs ρ l) with
    | none => xop ρ o h
    | some v => .ok (.v v) h

def bval (fact : Nat → List AV → Option AV) (v : AV) : Option Bool := match v with
  | .b x => some x
  | .q i => match fact 0 [.q i] with
    | some (.b x) => some x
    | _ => none
  | _ => none

/-! ### Code -/

structure Fr where
  t : Tr AV
  n : Nat
  d : List Nat
  r : Option Nat

def ev (t : Tr AV) : Rf → AV
  | .t i => match t.get i with
    | some v => v
    | none => .un
  | .c v => v

def putK {α : Type} (t : Tr AV) (n : Nat) (d : Option Nat) (v : AV) (c : Tr AV → Res α) : Res α := match d with
  | none => c t
  | some d => match Nat.blt d n with
    | true => t.setK d v c
    | false => .err 100

/-- Is an operation wanted? -/
def want (fact : Nat → List AV → Option AV) (t : Tr AV) (g : Option (Nat × Bool)) : Option Bool := match g with
  | none => some true
  | some (g, w) => match bval fact (ev t (.t g)) with
    | some x => match x, w with
      | true, true => some true
      | false, false => some true
      | _, _ => some false
    | none => match ev t (.t g) with
      | .q _ => none
      | _ => some false

section
variable (fact : Nat → List AV → Option AV) (cl : Nx → AH → Res AV) (n : Nat)

def aops : List AOper → Tr AV → AH → Res (Tr AV)
  | [], t, h => .ok t h
  | o :: os, t, h => match want fact t o.g with
    | some true => ((xopE fact (ev t) o.o h).bind cl).bind fun v h => putK t n o.d v fun t => aops os t h
    | some false => putK t n o.d .un fun t => aops os t h
    | none => .err 101

/-- A region that draws its order, in its plan's order. 'id' is kept for the one allocation that floats. -/
def aplan (id : Nat) : List PI → Tr AV → AH → Res (Tr AV)
  | [], t, h => .ok t h
  | .op o :: os, t, h => match want fact t o.g with
    | some true => ((xopE fact (ev t) o.o h).bind cl).bind fun v h => putK t n o.d v fun t => aplan id os t h
    | some false => putK t n o.d .un fun t => aplan id os t h
    | none => .err 101
  | .fl o :: os, t, h => match want fact t o.g with
    | some true => (match xopE fact (ev t) o.o ⟨id, h.o⟩ with
        | .ok (.v v) h' => putK t n o.d v fun t => aplan id os t ⟨h.nx, h'.o⟩
        | _ => .err 120)
    | some false => putK t n o.d .un fun t => aplan id os t h
    | none => .err 101
  | .chk o :: os, t, h => match want fact t o.g with
    | some true => (match xopE fact (ev t) o.o h, o.d with
        | .ok (.v v) _, some d => (match veq v (ev t (.t d)) with
          | true => aplan id os t h
          | false => .err 102)
        | _, _ => .err 103)
    | some false => aplan id os t h
    | none => .err 101
end

section
variable (env : Env) (C : AC → Fr → AH → Res (AJ × Fr))

def tmpsOf {α : Type} : List AV → Nat → Tr AV → (Tr AV → Res α) → Res α
  | [], _, t, c => c t
  | v :: l, i, t, c => t.setK i v fun t => tmpsOf l (i + 1) t c

def untake : List Nat → AH → (AH → Res AV) → Res AV
  | [], h, c => c h
  | r :: l, h, c => match h.o.get r with
    | some (.dfr false) => hset h r (.dfr true) fun h => untake l h c
    | _ => .err 104

def resOf (t : Tr AV) (h : AH) : ARes → Option AV
  | .t n => some (ev t (.t n))
  | .c n agg sz => match ev t (.t n) with
    | .p id off => match agg with
      | true => match hload h id off sz with
        | some l => some (.ag l)
        | none => none
      | false => match hload h id off 1 with
        | some [v] => some v
        | _ => none
    | _ => none

def ress (t : Tr AV) (h : AH) : List ARes → Option (List AV)
  | [] => some []
  | r :: l => match resOf t h r, ress t h l with
    | some v, some l => some (v :: l)
    | _, _ => none

def fin (res : List ARes) (fr : Fr) (h : AH) : Res AV :=
  untake fr.d h fun h => match ress fr.t h res with
    | some [v] => .ok v h
    | some l => .ok (.tp l) h
    | none => .err 105

def callF (f : Nat) (args : List AV) (h : AH) : Res AV :=
  match env.ext f args h with
  | some (v, h') => .ok v h'
  | none => match env.fn f with
  | none => .err (100000 + f)
  | some af => match Nat.ble args.length af.n with
    | false => .err 106
    | true => tmpsOf args 0 .e fun t => (C af.body ⟨t, af.n, [], none⟩ h).bind fun x h => match x.1 with
      | .exit _ => .err 107
      | _ => fin af.res x.2 h

def pset {α : Type} (n : Nat) : List Nat → List AV → Tr AV → (Tr AV → Res α) → Res α
  | [], [], t, c => c t
  | p :: ps, v :: l, t, c => match Nat.blt p n with
    | true => t.setK p v fun t => pset n ps l t c
    | false => .err 108
  | _, _, _, _ => .err 109

def roundF (l : Nat) (args : List AV) (h : AH) : Res AV :=
  match h.o.get l with
  | some (.loop _ _ n t ps asg body _) => pset n ps args t fun t => (C asg ⟨t, n, [], some l⟩ h).bind fun x h => match x.1 with
    | .norm => (match h.o.get l with
      | some (.loop .ready pend n t ps asg' body' df) => hset h l (.loop .busy pend n t ps asg' body' df) fun h =>
        (C body x.2 h).bind fun x h => (match h.o.get l with
          | some (.loop _ _ n t ps asg body df) => (match x.1 with
            | .norm => hset h l (.loop .ready .norm n t ps asg body df) fun h => .ok (.b true) h
            | j => hset h l (.loop .done j n t ps asg body df) fun h => .ok (.b false) h)
          | _ => .err 110)
      | _ => .err 111)
    | _ => .err 112
  | _ => .err 113

def doNx (x : Nx) (h : AH) : Res AV := match x with
  | .v a => .ok a h
  | .call f args => callF env C f args h
  | .yld l args => roundF C l args h

/-- The call of the function that is ranged over. -/
def rfF (l : Nat) (x : AV) (h : AH) : Res AV := match x with
  | .f (.func g) first cap => listK (first ++ [.f (.yield l) [] []] ++ cap) fun args => callF env C g args h
  | .f (.yield g) [] [] => roundF C g [.f (.yield l) [] []] h
  | _ => .err 118

def loopEnd (l : Nat) (fr : Fr) (h : AH) : Res (AJ × Fr) :=
  match h.o.get l with
  | some (.loop .busy ..) => .err 114
  | some (.loop _ pend n t ps asg body df) => hset h l (.loop .exhausted pend n t ps asg body df) fun h => .ok (pend, fr) h
  | _ => .err 115

def enterK (fr : Fr) (ps : List Nat) (asg body : AC) (h : AH) (c : Nat → Fr → AH → Res (AJ × Fr)) : Res (AJ × Fr) :=
  match fr.r with
  | none => hnew h (.dfr false) fun r h => hnew h (.loop .ready .norm fr.n fr.t ps asg body r) fun l h => c l ⟨fr.t, fr.n, r :: fr.d, none⟩ h
  | some l0 => match h.o.get l0 with
    | some (.loop _ _ _ _ _ _ _ df) => hnew h (.loop .ready .norm fr.n fr.t ps asg body df) fun l h => c l fr h
    | _ => .err 116

def stepC (c : AC) (fr : Fr) (h : AH) : Res (AJ × Fr) :=
  match c with
  | .skip => .ok (.norm, fr) h
  | .reg ops => (aops env.fact (doNx env C) fr.n ops fr.t h).bind fun t h => .ok (.norm, ⟨t, fr.n, fr.d, fr.r⟩) h
  | .drw ps => natK h.nx fun id => natK (id + 1) fun nx => (aplan env.fact (doNx env C) fr.n id ps fr.t ⟨nx, h.o⟩).bind fun t h => .ok (.norm, ⟨t, fr.n, fr.d, fr.r⟩) h
  | .seq a b => (C a fr h).bind fun x h => match x.1 with
    | .norm => C b x.2 h
    | j => .ok (j, x.2) h
  | .cond x a b => match bval env.fact (ev fr.t x) with
    | some true => C a fr h
    | some false => C b fr h
    | none => .err 117
  | .blk id a => (C a fr h).bind fun x h => match x.1 with
    | .norm => .ok (.norm, x.2) h
    | .exit i => (match Nat.beq i id with
      | true => .ok (.norm, x.2) h
      | false => .ok (.exit i, x.2) h)
    | .ret => .ok (.ret, x.2) h
  | .loop a => (C a fr h).bind fun x h => match x.1 with
    | .norm => C (.loop a) x.2 h
    | j => .ok (j, x.2) h
  | .rf x ps asg body => enterK fr ps asg body h fun l fr h => (rfF env C l (ev fr.t x) h).bind fun _ h => loopEnd l fr h
  | .exit id => .ok (.exit id, fr) h
  | .ret => .ok (.ret, fr) h
  | .bad why => .err (2000 + why)
end

def evalC (env : Env) : Nat → AC → Fr → AH → Res (AJ × Fr)
  | 0 => fun _ _ _ => .err 119
  | n + 1 => stepC env (evalC env n)

def evalF (env : Env) (n : Nat) (f : Nat) (args : List AV) (h : AH) : Res AV := callF env (evalC env n) f args h

end Go.Proofs.YtmlfcopllfdjfaaGreat.Am
