/- An abstract machine for the program's code, and that it is sound: part Am1. -/
import Derived.Test.YtmlfcopllfdjfaaGreatAm0
import GoSem.Dispatch
import GoSem.Op.Equal
namespace Go.Proofs.YtmlfcopllfdjfaaGreat.Am

def cVal : Nat → Value → Option AV
  | 0, _ => none
  | n + 1, v => match v with
    | .bool b => some (.b b)
    | .int k n => some (.i k n)
    | .string s => some (.s (s.data.toList.map UInt8.toNat))
    | .pointer none => some .np
    | .slice none 0 0 => some .nsl
    | .map none => some .nm
    | .nilFunc => some .nf
    | .nilIface => some .ni
    | .agg cs => (cs.toList.mapM (cVal n)).map .ag
    | .tuple cs => (cs.toList.mapM (cVal n)).map .tp
    | .func (.func f) first cap => if first.size = 0 ∧ cap.size = 0 then some (.f (.func f) [] []) else none
    | _ => none

def cRef : Operand → Option Rf
  | .tmp t => some (.t t)
  | .const v => (cVal 3 v).map .c
  | .func f => some (.c (.f (.func f) [] []))
  | .global _ => none

section
variable (P : Program)

def cZero (t : TypeId) : Option AV := (P.info? t).bind fun i => i.zero.bind (cVal 3)
def cZeroCells (t : TypeId) : Option (List AV) := (cZero P t).map AV.cells
def cSize (t : TypeId) : Option Nat := (P.info? t).map (·.size)
def cBytes (t : TypeId) : Option Nat := (P.info? t).map (·.bytes)
def cAgg (t : TypeId) : Option Bool := (P.underlying t).map fun
  | .struct _ | .array _ _ => true
  | _ => false

def cEq : Nat → TypeId → Option EqT
  | 0, _ => none
  | n + 1, t => match P.underlying t with
    | some (.int _) => some .int
    | some .string => some .str
    | some .bool => some .bool
    | some (.pointer e) => match cSize P e with
      | some (_ + 1) => some .ptr
      | _ => none
    | some (.slice _) => some .nils
    | some (.map ..) => some .nilm
    | some (.func ..) => some .nilf
    | some (.struct fs) => if P.stoodInHeld t then none else
      (fs.toList.mapM fun (f : Field) => if f.name = "_" then none else do
        pure (f.offset, (← cSize P f.type), (← cAgg P f.type), (← cEq n f.type))).map EqT.ag
    | _ => none

def cEqOf (t : TypeId) : EqT := match P.underlying t with
  | some (.struct _) | some (.array ..) => if P.eqGuardType P.depth t then .no else (cEq P 5 t).getD .no
  | _ => (cEq P 5 t).getD .no

def eqFor (op : BinOp) (t : TypeId) : EqT := match op with
  | .eql => cEqOf P t
  | .neq => cEqOf P t
  | _ => .no

def oref : Option Operand → Option (Option Rf)
  | none => some none
  | some x => (cRef x).map some

def cParts (place : Nat → Option (Nat × Nat)) : List (Nat × Operand) → Option (List (Nat × Nat × Rf))
  | [] => some []
  | (i, x) :: ps => match place i, cRef x, cParts place ps with
    | some (off, sz), some y, some l => some ((off, sz, y) :: l)
    | _, _, _ => none

def cRefs : List Operand → Option (List Rf)
  | [] => some []
  | x :: l => match cRef x, cRefs l with
    | some y, some r => some (y :: r)
    | _, _ => none

/-- A size that is not 0. -/
def cSize1 (t : TypeId) : Option Nat := match cSize P t with
  | some (n + 1) => some (n + 1)
  | _ => none

def cBytes1 (t : TypeId) : Option Nat := match cBytes P t with
  | some (n + 1) => some (n + 1)
  | _ => none

def cZeroOf (t : TypeId) : Option (List AV) := match cZeroCells P t, cSize1 P t with
  | some z, some n => if z.length = n then some z else none
  | _, _ => none

def at? (a : Array TypeId) (i : Nat) : Option TypeDesc := match a[i]? with
  | some t => P.underlying t
  | none => none

def cCall (c : Call) : Option AOp := do
  let args ← cRefs c.args.toList
  match c.callee with
  | .value (.func f) =>
    let fn ← P.funcs[f]?
    if fn.body.isSome then
      if fn.name == "runtime.NumGoroutine" then none else pure (.call f args)
    else if (Extern.findNext fn).isSome then none
    else if fn.name == "maps.clone" then
      match args with
      | [x] => pure (.mcl x)
      | _ => none
    else if fn.name == "internal/bytealg.IndexByteString" then
      match args with
      | [x, y] => pure (.ibs x y)
      | _ => none
    else none
  | .value f => pure (.cald (← cRef f) args)
  | .invoke .. => none
  | .builtin b =>
    match b, args with
    | .len, [x] => match at? P c.argTypes 0 with
      | some .string => pure (.len 0 x)
      | some (.slice _) => pure (.len 1 x)
      | some (.map ..) => pure (.len 2 x)
      | some (.array n _) => pure (.lenc n x)
      | _ => none
    | .cap, [x] => match at? P c.argTypes 0 with
      | some (.slice _) => pure (.cap x)
      | _ => none
    | .append, [x, y] => match at? P c.argTypes 0, at? P c.argTypes 1 with
      | some (.slice e), some (.int _) => do
        let z ← cZeroOf P e
        pure (.appz z.length (← cBytes1 P e) z x y)
      | some (.slice e), some (.slice _) => do
        let z ← cZeroOf P e
        pure (.app z.length (← cBytes1 P e) z x y)
      | some (.slice e), some .string => do
        let z ← cZeroOf P e
        pure (.app z.length (← cBytes1 P e) z x y)
      | _, _ => none
    | .delete, [m, k] => match at? P c.argTypes 0 with
      | some (.map kt _) => pure (.del (cEqOf P kt) m k)
      | _ => none
    | .clear, [x] => match at? P c.argTypes 0 with
      | some (.map ..) => pure (.clr true [] x)
      | some (.slice e) => pure (.clr false (← cZeroOf P e) x)
      | _ => none
    | .min, [x, y] => pure (.mnx false x y)
    | .max, [x, y] => pure (.mnx true x y)
    | .copy, [x, y] => match at? P c.argTypes 0 with
      | some (.slice e) => match at? P c.argTypes 1 with
        | some (.slice _) => pure (.cpy (← cSize1 P e) x y)
        | some .string => pure (.cpy (← cSize1 P e) x y)
        | _ => none
      | _ => none
    | _, _ => none

def cOp? (o : Op) : Option AOp :=
  match o with
  | .move x | .assign x => do pure (.mv (← cRef x))
  | .pick c a b => do pure (.pick (← cRef c) (← cRef a) (← cRef b))
  | .alloc t => do pure (.alloc (← cZeroCells P t))
  | .box t x => do pure (.box (← cSize P t) (← cRef x))
  | .build t ps => do
    let z ← cZeroCells P t
    match P.underlying t with
    | some (.struct fs) =>
      let pl ← fs.toList.mapM (fun f => (P.info? f.type).map fun i => (f.offset, i.size))
      pure (.build z (← cParts (fun i => pl[i]?) ps.toList))
    | some (.array _ e) =>
      let ie ← P.info? e
      pure (.build z (← cParts (fun i => some (i * ie.size, ie.size)) ps.toList))
    | _ => none
  | .buildSlice t len ps => do
    let some (.slice e) := P.underlying t | none
    let z ← cZeroOf P e
    if len * z.length > 2 ^ 24 then none else
    pure (.bsl len z (← cParts (fun i => some (i * z.length, z.length)) ps.toList))
  | .load t a => do pure (.ld (← cAgg P t) (← cSize P t) (← cRef a))
  | .store t a v => do pure (.st (← cSize P t) (← cRef a) (← cRef v))
  | .nilCheck x => do pure (.nck (← cRef x))
  | .binOp op t x y _ => do pure (.bin op (eqFor P op t) (← cRef x) (← cRef y))
  | .unOp op _ x => do pure (.un op (← cRef x))
  | .convert src dst x => do
    let x ← cRef x
    match P.underlying src, P.underlying dst with
    | some (.int _), some (.int k) => pure (.cvi k x)
    | some (.int _), some .string => pure (.cvis x)
    | some .string, some .string => pure (.cvid x)
    | some .string, some (.slice e) => match P.underlying e with
      | some (.int .u8) => pure (.cvsb x)
      | _ => none
    | some (.slice e), some .string => match P.underlying e with
      | some (.int .u8) => pure (.cvbs x)
      | _ => none
    | _, _ => none
  | .makeInterface t x => do
    match P.underlying t with
    | some (.interface _) => none
    | some _ => pure (.mki t (← cRef x))
    | none => none
  | .makeFunc (.func f) first cap => do pure (.mkf f (← cRefs first.toList) (← cRefs cap.toList))
  | .makeMap _ none => pure .mkm
  | .makeSlice t l c => do
    let some (.slice e) := P.underlying t | none
    let z ← cZeroOf P e
    pure (.mks z.length (← cBytes P e) z (← cRef l) (← cRef c))
  | .slice t x lo hi mx => do
    let x ← cRef x
    let lo ← oref lo
    let hi ← oref hi
    let mx ← oref mx
    match P.underlying t, mx with
    | some .string, none => pure (.slS x lo hi)
    | some (.slice e), mx => if mx.isSome && hi.isNone then none else pure (.slL (← cSize P e) x lo hi mx)
    | some (.array n e), none => pure (.slA n (← cSize P e) x lo hi)
    | _, _ => none
  | .fieldAddr s x i => do
    let some (.struct fs) := P.underlying s | none
    let f ← fs[i]?
    if (← cSize P f.type) = 0 then none else pure (.fa f.offset (← cRef x))
  | .field t x i => do
    let some (.struct fs) := P.underlying t | none
    let f ← fs[i]?
    pure (.fld f.offset (← cSize P f.type) (← cAgg P f.type) (← cRef x))
  | .indexAddr t x i => do
    match P.underlying t with
    | some (.array n e) => pure (.iaA n (← cSize P e) (← cRef x) (← cRef i))
    | some (.slice e) => pure (.iaL (← cSize P e) (← cRef x) (← cRef i))
    | _ => none
  | .index t x i => do
    match P.underlying t with
    | some (.array n e) => pure (.ixA n (← cSize P e) (← cAgg P e) (← cRef x) (← cRef i))
    | some .string => pure (.ixS (← cRef x) (← cRef i))
    | _ => none
  | .lookup t x i ok => do
    let some (.map k e) := P.underlying t | none
    pure (.lk (cEqOf P k) (← cZero P e) ok (← cRef x) (← cRef i))
  | .mapUpdate t m k v => do
    let some (.map kt _) := P.underlying t | none
    pure (.mu (cEqOf P kt) (← cRef m) (← cRef k) (← cRef v))
  | .range t x => do
    match P.underlying t with
    | some .string => pure (.rng true (← cRef x))
    | some (.map ..) => pure (.rng false (← cRef x))
    | _ => none
  | .next it s => do pure (.nxt s (← cRef it))
  | .entry it => do pure (.ent (← cRef it))
  | .typeAssert x _ t ok => do
    match P.underlying t with
    | some (.interface _) => none
    | some _ => pure (.tas t (← cZero P t) ok (← cRef x))
    | none => none
  | .extract x i => do pure (.xt (← cRef x) i)
  | .call c => cCall P c
  | _ => none

def cOp (o : Op) : AOp := (cOp? P o).getD (.bad 0)

def cOper (ops : Array Oper) (o : Oper) : AOper :=
  match o.guard with
  | none => ⟨o.dst, cOp P o.op, none⟩
  | some (j, w) => match (ops[j]?).bind (·.dst) with
    | some t => ⟨o.dst, cOp P o.op, some (t, w)⟩
    | none => ⟨o.dst, .bad 1, none⟩

/-- 0: touches nothing · 1: reads · 2: makes memory · 3: anything. -/
def cls : AOp → Nat
  | .mv _ | .pick .. | .build .. | .nck _ | .bin .. | .un .. | .cvi .. | .cvid _ | .cvis _ | .mki .. | .mkf .. | .slS .. | .slA .. | .fa .. | .iaA .. | .iaL ..
  | .ixS .. | .ixA .. | .fld .. | .tas .. | .xt .. | .lenc .. | .cap _ | .mnx .. | .ibs .. => 0
  | .ld .. | .cvbs _ | .slL .. | .lk .. | .ent _ | .len .. => 1
  | .alloc _ | .box .. | .bsl .. | .mkm | .mks .. | .cvsb _ => 2
  | _ => 3

def Rf.slot : Rf → List Nat
  | .t n => [n]
  | .c _ => []

def slots : List Rf → List Nat
  | [] => []
  | .t n :: l => n :: slots l
  | .c _ :: l => slots l

def oslot : Option Rf → List Rf
  | none => []
  | some x => [x]

/-- What an operation looks at. -/
def AOp.refs : AOp → List Rf
  | .mv x | .box _ x | .ld _ _ x | .nck x | .un _ x | .cvi _ x | .cvid x | .cvsb x | .cvbs x | .cvis x | .mki _ x | .fa _ x | .fld _ _ _ x | .rng _ x | .nxt _ x | .ent x
  | .tas _ _ _ x | .xt x _ | .mcl x | .len _ x | .lenc _ x | .cap x | .clr _ _ x => [x]
  | .pick a b c | .mu _ a b c => [a, b, c]
  | .alloc _ | .mkm | .bad _ => []
  | .build _ ps | .bsl _ _ ps => ps.map fun p => p.2.2
  | .st _ x y | .bin _ _ x y | .mks _ _ _ x y | .iaA _ _ x y | .iaL _ x y | .ixS x y | .ixA _ _ _ x y | .lk _ _ _ x y | .ibs x y | .app _ _ _ x y | .appz _ _ _ x y | .del _ x y | .mnx _ x y | .cpy _ x y => [x, y]
  | .mkf _ a b => a ++ b
  | .slS x a b | .slA _ _ x a b => x :: (oslot a ++ oslot b)
  | .slL _ x a b c => x :: (oslot a ++ (oslot b ++ oslot c))
  | .call _ l => l
  | .cald x l => x :: l

def AOper.looks (o : AOper) : List Nat := match o.g with
  | none => slots o.o.refs
  | some (g, _) => g :: slots o.o.refs

/-- Can it be the one that floats? -/
def floaty : AOp → Bool
  | .alloc _ | .mkm | .bsl .. => true
  | _ => false

/-- Is i ahead of j? -/
def isAnc (anc : List Nat) (i j : Nat) : Bool := ((anc[j]?).getD 0).testBit i

def clsAt (ops : List AOper) (i : Nat) : Nat := match ops[i]? with
  | some o => cls o.o
  | none => 3

/-- What is done ahead of the spine's operation e: what it needs, and reads that can be done. -/
def mkPre (ops : List AOper) (anc : List Nat) (sp : List Nat) (e : Nat) : List Nat → List Nat → List Nat
  | [], done => done
  | i :: is, done =>
    if done.contains i || sp.contains i then mkPre ops anc sp e is done
    else if isAnc anc i e then mkPre ops anc sp e is (done ++ [i])
    else if clsAt ops i ≤ 1 && (List.range i).all (fun j => !isAnc anc j i || done.contains j) then mkPre ops anc sp e is (done ++ [i])
    else mkPre ops anc sp e is done

def mkPlan (ops : List AOper) (anc : List Nat) (sp : List Nat) : List Nat → List Nat → List (Bool × Nat) → List (Bool × Nat)
  | [], done, acc => acc ++ ((List.range ops.length).filter fun i => !done.contains i).map fun i => (true, i)
  | e :: es, done, acc =>
    let d := mkPre ops anc sp e (List.range ops.length) done
    let new := d.drop done.length
    let chk := d.filter fun r => clsAt ops r == 1 && !isAnc anc r e
    mkPlan ops anc sp es (d ++ [e]) (acc ++ new.map (fun i => (true, i)) ++ [(true, e)] ++ chk.map fun i => (false, i))

/-- Lay the floating one as late as can be. -/
def layFloat (anc : List Nat) (a : Nat) : List Nat → List Nat
  | [] => [a]
  | e :: es => if isAnc anc a e then a :: e :: es else e :: layFloat anc a es

def floatOf (ops : List AOper) (anc : List Nat) (sp : List Nat) : Option Nat :=
  sp.find? fun a => (match ops[a]? with
    | some o => floaty o.o
    | none => false) && sp.any fun e => !Nat.beq a e && !isAnc anc a e && !isAnc anc e a

/-- The plan: the floating one (or the number of operations), and the entries. -/
def planOf (ops : List AOper) (anc : List Nat) : Nat × List (Bool × Nat) :=
  let sp := (List.range ops.length).filter fun i => Nat.ble 2 (clsAt ops i)
  match floatOf ops anc sp with
  | none => (ops.length, mkPlan ops anc sp sp [] [])
  | some a => (a, mkPlan ops anc sp (layFloat anc a (sp.filter fun e => !Nat.beq e a)) [] [])

def toPI (ops : List AOper) (fl : Nat) : List (Bool × Nat) → List PI
  | [] => []
  | (b, i) :: l => match ops[i]? with
    | some o => (match b, Nat.beq i fl with
      | true, true => .fl o
      | true, false => .op o
      | false, _ => .chk o) :: toPI ops fl l
    | none => toPI ops fl l

/-! ### The plan's check -/

def bAfter (o : Oper) : List Nat := (o.after.toList.filter (Region.binds .any)).map (·.on)

def maskOf (anc : List Nat) : List Nat → Nat → Nat
  | [], s => s
  | j :: l, s => maskOf anc l (s ||| 2 ^ j ||| (anc[j]?).getD 0)

/-- 'anc' is what lies ahead, by the edges; edges lead back. -/
def ancOk (anc : List Nat) : List (List Nat) → Nat → Bool
  | [], _ => true
  | l :: ls, i => l.all (fun j => Nat.blt j i) && Nat.beq ((anc[i]?).getD 0) (maskOf anc l 0) && ancOk anc ls (i + 1)

def dstsOk : List AOper → List Nat → Bool
  | [], _ => true
  | o :: l, seen => match o.d with
    | none => dstsOk l seen
    | some d => !seen.contains d && dstsOk l (d :: seen)

/-- Of each slot that is looked at: who lays it has been done and lies ahead, or it has not been done and lies behind. -/
def slotOk (anc : List Nat) (i done x : Nat) : List AOper → Nat → Bool
  | [], _ => true
  | o :: l, j => (match o.d with
    | none => true
    | some d => !Nat.beq d x || isAnc anc j i || (isAnc anc i j && !done.testBit j)) && slotOk anc i done x l (j + 1)

def looksOk (ops : List AOper) (anc : List Nat) (i done : Nat) : Bool := match ops[i]? with
  | none => false
  | some o => o.looks.all fun x => slotOk anc i done x ops 0

def entriesOk (ops : List AOper) (anc : List Nat) : List (Bool × Nat) → Nat → Bool
  | [], done => (List.range ops.length).all fun i => done.testBit i
  | (true, i) :: l, done => !done.testBit i && Nat.beq (((anc[i]?).getD 0) &&& done) ((anc[i]?).getD 0) && looksOk ops anc i done && entriesOk ops anc l (done ||| 2 ^ i)
  | (false, i) :: l, done => done.testBit i && Nat.beq (clsAt ops i) 1 && looksOk ops anc i done && entriesOk ops anc l done

def spineOf (ops : List AOper) : List (Bool × Nat) → List Nat
  | [] => []
  | (true, i) :: l => if Nat.ble 2 (clsAt ops i) then i :: spineOf ops l else spineOf ops l
  | (false, _) :: l => spineOf ops l

/-- One behind the other, but for the floating one. -/
def spineOk (anc : List Nat) (fl : Nat) : List Nat → Bool
  | u :: v :: l => (if Nat.beq v fl then (match l with
      | x :: _ => isAnc anc u x
      | [] => true) else isAnc anc u v) && spineOk anc fl (v :: l)
  | _ => true

def segsOf (ops : List AOper) (i : Nat) : List (Bool × Nat) → Nat → List Nat
  | [], _ => []
  | (b, j) :: l, k =>
    let r := segsOf ops i l (if b && Nat.ble 2 (clsAt ops j) then k + 1 else k)
    if Nat.beq i j then k :: r else r

/-- In each stretch of the spine where it may be done, a read is done or looked at again. -/
def readOk (ops : List AOper) (anc : List Nat) (fl : Nat) (sp : List Nat) (segs : List Nat) (i : Nat) : List Nat → List Nat → Nat → Bool
  | past, rest, k => (past.any (fun s => isAnc anc i s) || rest.any (fun s => isAnc anc s i) || segs.contains k) &&
    match rest with
    | [] => true
    | s :: rest => readOk ops anc fl sp segs i (s :: past) rest (k + 1)

def floatRead (anc : List Nat) (fl i : Nat) : List Nat → Bool
  | u :: v :: l => (!Nat.beq v fl || !isAnc anc fl i || isAnc anc u i) && floatRead anc fl i (v :: l)
  | _ => true

def readsOk (ops : List AOper) (anc : List Nat) (fl : Nat) (plan : List (Bool × Nat)) (sp : List Nat) : Bool :=
  (List.range ops.length).all fun i => !Nat.beq (clsAt ops i) 1 || (floatRead anc fl i sp && readOk ops anc fl sp (segsOf ops i plan 0) i [] sp 0)

def planOk (src : Array Oper) (ops : List AOper) (anc : List Nat) (fl : Nat) (plan : List (Bool × Nat)) : Bool :=
  ancOk anc (src.toList.map bAfter) 0 && dstsOk ops [] && entriesOk ops anc plan 0 &&
  (match ops[fl]? with
   | some o => floaty o.o
   | none => true) &&
  (let sp := spineOf ops plan
   spineOk anc fl sp && readsOk ops anc fl plan sp)

def cCode : Code → AC
  | .skip => .skip
  | .region _ ops draw =>
    let l := ops.toList.map (cOper P ops)
    if draw then
      let anc := (Region.before ops).toList
      let plan := planOf l anc
      if planOk ops l anc plan.1 plan.2 then .drw (toPI l plan.1 plan.2) else .bad 1
    else .reg l
  | .seq a b => .seq (cCode a) (cCode b)
  | .cond c a b => match cRef c with
    | some x => .cond x (cCode a) (cCode b)
    | none => .bad 2
  | .block id a => .blk id (cCode a)
  | .loop a => .loop (cCode a)
  | .rangeFunc f ps a b => match cRef f with
    | some x => .rf x ps.toList (cCode a) (cCode b)
    | none => .bad 3
  | .exit id => .exit id
  | .ret => .ret
  | _ => .bad 4

def cRes : ResultVar → Option ARes
  | .tmp t => some (.t t)
  | .cell a t => do pure (.c a (← cAgg P t) (← cSize P t))

def cFunOf (fn : Func) : Option AF := do
  let body ← fn.body
  if fn.name == "runtime.NumGoroutine" then none else
  let res ← fn.results.toList.mapM (cRes P)
  pure ⟨fn.ntmps, res, cCode P body⟩

def cFun (f : FuncId) : Option AF := do
  let fn ← P.funcs[f]?
  cFunOf P fn

end
end Go.Proofs.YtmlfcopllfdjfaaGreat.Am
