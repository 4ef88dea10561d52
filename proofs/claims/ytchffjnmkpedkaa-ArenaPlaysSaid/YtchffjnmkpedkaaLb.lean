/-
  LITE, part b: from the model's code to the evaluator's. Own work of this session: definitions alone.
-/
import Derived.Test.YtchffjnmkpedkaaLa
set_option linter.unusedSectionVars false
set_option linter.unusedSimpArgs false
set_option linter.unusedVariables false
namespace Go.Lite
set_option linter.unusedSectionVars false
set_option linter.unusedSimpArgs false
set_option linter.unusedVariables false

def ofCell : Value → Option AV
  | .int k n => some (.int k n)
  | .bool b => some (.bool b)
  | .string s => some (.str s)
  | .pointer none => some (.ptr none)
  | .slice none 0 0 => some (.slice none 0 (.known 0))
  | .nilFunc => some .nilFunc
  | .map none => some (.map none)
  | _ => none

def ofCells : List Value → Option (List AV)
  | [] => some []
  | v :: l => match ofCell v, ofCells l with
    | some a, some m => some (a :: m)
    | _, _ => none

def ofValue : Value → Option AV
  | .agg cs => (ofCells cs.toList).map .agg
  | .tuple vs => if vs.size = 0 then some (.tuple []) else none
  | v => ofCell v

def lowerOpd : Operand → Option Opd
  | .tmp t => some (.t t)
  | .const v => (ofValue v).map .c
  | .func f => some (.f f)
  | .global _ => none

def lowerOpds : List Operand → Option (List Opd)
  | [] => some []
  | x :: l => match lowerOpd x, lowerOpds l with
    | some a, some m => some (a :: m)
    | _, _ => none

def lowerOptOpd : Option Operand → Option (Option Opd)
  | none => some none
  | some x => (lowerOpd x).map some

variable (P : Program)

def isAggT (t : TypeId) : Option Bool :=
  match P.underlying t with
  | some (.struct _) | some (.array _ _) => some true
  | some _ => some false
  | none => none

def sizeT (t : TypeId) : Option Nat := (P.info? t).map (·.size)

/-- A load of this type: an aggregate of so many cells, or one cell. -/
def aggT (t : TypeId) : Option (Option Nat) :=
  match isAggT P t, sizeT P t with
  | some true, some n => some (some n)
  | some false, some _ => some none
  | _, _ => none

/-- The fields' cells, in their order. -/
def flatF (rec_ : TypeId → Option (List CK)) : Nat → List Field → Option (List CK)
  | _, [] => some []
  | off, f :: fs =>
    if f.name ≠ "_" ∧ f.offset = off then
      match sizeT P f.type, rec_ f.type, isAggT P f.type with
      | some n, some l, some _ => if l.length = n ∧ n ≠ 0 then (flatF rec_ (off + n) fs).map (l ++ ·) else none
      | _, _, _ => none
    else none

/-- The cells of a type whose '==' looks at numbers, bools and texts alone, in their order. -/
def flatT : Nat → TypeId → Option (List CK)
  | 0, _ => none
  | d + 1, t =>
    match P.underlying t with
    | some (.int k) => some [.int k]
    | some .bool => some [.bool]
    | some .string => some [.str]
    | some (.struct fields) => if P.stoodInHeld t then none else flatF P (flatT d) 0 fields.toList
    | some (.array len e) =>
      match sizeT P e, flatT d e with
      | some n, some l => if l.length = n ∧ n ≠ 0 then some (List.replicate len l).flatten else none
      | _, _ => none
    | _ => none

def eqKT (t : TypeId) : Option EqK :=
  match P.underlying t with
  | some .bool => some .bool
  | some (.pointer e) => match sizeT P e with
    | some n => if n = 0 then none else some .ptr
    | none => none
  | some (.slice _) => some .slice
  | some (.func _ _ _) => some .func
  | some (.struct _) | some (.array _ _) => if P.eqGuardType P.depth t then none else (flatT P 20 t).map .flat
  | _ => none

def zeroT (t : TypeId) : Option (List AV) :=
  match P.info? t with
  | some i => match i.zero with
    | some z => ofCells z.cells.toList
    | none => none
  | none => none

def lowerParts (place : Nat → Option (Nat × Nat)) : List (Nat × Operand) → Option (List (Nat × Nat × Opd))
  | [] => some []
  | (i, x) :: l => match place i, lowerOpd x, lowerParts place l with
    | some (o, s), some a, some m => some ((o, s, a) :: m)
    | _, _, _ => none

def isIntD : TypeDesc → Bool
  | .int _ => true
  | _ => false

def lowerLen (t : TypeId) (x : Operand) : Option O :=
  match P.underlying t with
  | some .string => (lowerOpd x).map (.len true)
  | some (.slice _) => (lowerOpd x).map (.len false)
  | some (.array n _) => some (.const (.int .i64 n))
  | some (.map _ _) => (lowerOpd x).map .mapLen
  | _ => none

def lowerCap (t : TypeId) (x : Operand) : Option O :=
  match P.underlying t with
  | some (.slice _) => (lowerOpd x).map .cap
  | _ => none

def lowerAppend (t u : TypeId) (x y : Operand) : Option O :=
  match P.underlying t, P.underlying u, lowerOpd x, lowerOpd y with
  | some (.slice e), some d, some a, some b =>
    match P.info? e with
    | some i =>
      if isIntD d = true then
        match zeroT P e with
        | some z => if z.length = i.size then some (.appendZ i.bytes z a b) else none
        | none => none
      else
        match i.zero with
        | some z => if z.cells.size = i.size then some (.append i.size i.bytes a b) else none
        | none => none
    | none => none
  | _, _, _, _ => none

def lowerCopy (t : TypeId) (x y : Operand) : Option O :=
  match P.underlying t, lowerOpd x, lowerOpd y with
  | some (.slice e), some a, some b => (sizeT P e).map fun n => .copy n a b
  | _, _, _ => none

/-- What may be a key. -/
def keyKind (t : TypeId) : Option CK :=
  match P.underlying t with
  | some (.int k) => some (.int k)
  | some .string => some .str
  | some .bool => some .bool
  | _ => none

def lowerDel (t : TypeId) (m k : Operand) : Option O :=
  match P.underlying t with
  | some (.map kt _) =>
    match keyKind P kt, lowerOpd m, lowerOpd k with
    | some c, some a, some b => some (.mapDel c a b)
    | _, _, _ => none
  | _ => none

def lowerClear (t : TypeId) (x : Operand) : Option O :=
  match P.underlying t with
  | some (.slice e) =>
    match zeroT P e, lowerOpd x with
    | some z, some a => some (.clear z a)
    | _, _ => none
  | _ => none

def lowerMM (mx : Bool) (x y : Operand) : Option O :=
  match lowerOpd x, lowerOpd y with
  | some a, some b => some (.minmax mx a b)
  | _, _ => none

def lowerCall (c : Call) : Option O :=
  match c.callee with
  | .value f => match lowerOpd f, lowerOpds c.args.toList with
    | some g, some l => some (.call g l)
    | _, _ => none
  | .invoke _ _ => none
  | .builtin b =>
    match b, c.args.toList, c.argTypes[0]?, c.argTypes[1]? with
    | .len, [x], some t, _ => lowerLen P t x
    | .cap, [x], some t, _ => lowerCap P t x
    | .append, [x, y], some t, some u => lowerAppend P t u x y
    | .copy, [x, y], some t, _ => lowerCopy P t x y
    | .delete, [m, k], some t, _ => lowerDel P t m k
    | .clear, [x], some t, _ => lowerClear P t x
    | .max, [x, y], _, _ => lowerMM true x y
    | .min, [x, y], _, _ => lowerMM false x y
    | _, _, _, _ => none

def zeroV (t : TypeId) : Option AV :=
  match P.info? t with
  | some i => match i.zero with
    | some z => ofValue z
    | none => none
  | none => none

def lowerOp (o : Op) : Option O :=
  match o with
  | .move x | .assign x => (lowerOpd x).map .mov
  | .pick c a b => match lowerOpd c, lowerOpd a, lowerOpd b with
    | some c, some a, some b => some (.pick c a b)
    | _, _, _ => none
  | .alloc e => (zeroT P e).map .new
  | .box _ x => (lowerOpd x).map .box
  | .build t parts =>
    match zeroT P t with
    | none => none
    | some z =>
      match P.underlying t with
      | some (.struct fields) =>
        if fields.toList.all (fun f => (sizeT P f.type).isSome) then
          (lowerParts (fun i => (fields[i]?).bind fun f => (sizeT P f.type).map fun n => (f.offset, n)) parts.toList).map (.build z)
        else none
      | some (.array _ e) =>
        match sizeT P e with
        | some n => (lowerParts (fun i => some (i * n, n)) parts.toList).map (.build z)
        | none => none
      | _ => none
  | .buildSlice t len parts =>
    match P.underlying t with
    | some (.slice e) =>
      match sizeT P e, zeroT P e with
      | some n, some z =>
        if len * n ≤ 16777216 ∧ z.length = n ∧ n ≠ 0 then
          (lowerParts (fun i => some (i * n, n)) parts.toList).map (.buildSlice len (List.replicate len z).flatten)
        else none
      | _, _ => none
    | _ => none
  | .load t a => match aggT P t, lowerOpd a with
    | some g, some x => some (.load g x)
    | _, _ => none
  | .store t a x => match sizeT P t, lowerOpd a, lowerOpd x with
    | some n, some p, some v => some (.store n p v)
    | _, _, _ => none
  | .nilCheck x => (lowerOpd x).map .nilCheck
  | .binOp op t x y _ =>
    match P.underlying t, lowerOpd x, lowerOpd y with
    | some (.int _), some a, some b | some .string, some a, some b => some (.bin op a b)
    | some _, some a, some b =>
      match op, eqKT P t with
      | .eql, some k => some (.eq false k a b)
      | .neq, some k => some (.eq true k a b)
      | _, _ => none
    | _, _, _ => none
  | .unOp op _ x => (lowerOpd x).map (.un op)
  | .convert s d x =>
    match P.underlying s, P.underlying d, lowerOpd x with
    | some (.int _), some (.int k), some a => some (.convInt k a)
    | some .string, some .string, some a => some (.convId a)
    | _, _, _ => none
  | .makeSlice t l c =>
    match P.underlying t with
    | some (.slice e) =>
      match P.info? e, zeroT P e, lowerOpd l, lowerOpd c with
      | some i, some z, some a, some b => if z.length = i.size ∧ i.size ≠ 0 then some (.makeSlice i.bytes z a b) else none
      | _, _, _, _ => none
    | _ => none
  | .slice t x lo hi mx =>
    match lowerOpd x, lowerOptOpd lo, lowerOptOpd hi, lowerOptOpd mx with
    | some a, some l, some h, some m =>
      match P.underlying t with
      | some .string => some (.slice .str a l h m)
      | some (.slice e) => (sizeT P e).map fun n => .slice (.slice n) a l h m
      | some (.array k e) => (sizeT P e).map fun n => .slice (.arr k n) a l h m
      | _ => none
    | _, _, _, _ => none
  | .fieldAddr s x f =>
    match P.underlying s, lowerOpd x with
    | some (.struct fields), some a =>
      match fields[f]? with
      | some fd => match sizeT P fd.type with
        | some n => if n = 0 then none else some (.fieldAddr fd.offset a)
        | none => none
      | none => none
    | _, _ => none
  | .field s x f =>
    match P.underlying s, lowerOpd x with
    | some (.struct fields), some a =>
      match fields[f]? with
      | some fd => (aggT P fd.type).map fun g => .field fd.offset g a
      | none => none
    | _, _ => none
  | .indexAddr t x i =>
    match P.underlying t, lowerOpd x, lowerOpd i with
    | some (.array n e), some a, some b => (sizeT P e).map fun z => .indexAddr (some n) z a b
    | some (.slice e), some a, some b => (sizeT P e).map fun z => .indexAddr none z a b
    | _, _, _ => none
  | .index t x i =>
    match P.underlying t, lowerOpd x, lowerOpd i with
    | some .string, some a, some b => some (.indexStr a b)
    | some (.array n e), some a, some b => match sizeT P e, aggT P e with
      | some z, some g => some (.indexArr n z g a b)
      | _, _ => none
    | _, _, _ => none
  | .extract t i => (lowerOpd t).map fun x => .extract x i
  | .makeFunc (.func f) first caps =>
    match lowerOpds first.toList, lowerOpds caps.toList with
    | some a, some b => some (.makeFunc f a b)
    | _, _ => none
  | .call c => lowerCall P c
  | .makeMap _ none => some .makeMap
  | .makeMap t (some (.const (.int _ _))) =>
    match P.underlying t with
    | some (.map _ _) => some .makeMap
    | _ => none
  | .lookup t m k ok =>
    match P.underlying t with
    | some (.map kt et) =>
      match keyKind P kt, zeroV P et, lowerOpd m, lowerOpd k with
      | some c, some z, some a, some b => some (.lookup c z ok a b)
      | _, _, _, _ => none
    | _ => none
  | .mapUpdate t m k v | .insert t m k v =>
    match P.underlying t with
    | some (.map kt _) =>
      match keyKind P kt, lowerOpd m, lowerOpd k, lowerOpd v with
      | some c, some a, some b, some x => some (.mapUpd c a b x)
      | _, _, _, _ => none
    | _ => none
  | .range t m =>
    match P.underlying t with
    | some (.map _ _) => (lowerOpd m).map .rangeMap
    | _ => none
  | .next it false => (lowerOpd it).map .nextMap
  | .entry it => (lowerOpd it).map .entryMap
  | _ => none

variable (nt : Nat)

def lowerDst : Option Tmp → Option (Option Nat)
  | none => some none
  | some d => if d < nt then some (some d) else none

def lowerGuard (ops : Array Oper) : Option (Nat × Bool) → Option (Option (Nat × Bool))
  | none => some none
  | some (j, w) => match (ops[j]?).bind (·.dst) with
    | some t => some (some (t, w))
    | none => none

def lowerOper (ops : Array Oper) (o : Oper) : Option SOp :=
  match lowerDst nt o.dst, lowerGuard ops o.guard with
  | some d, some g => some ⟨d, g, (lowerOp P o.op).getD .no⟩
  | _, _ => none

def lowerOps (ops : Array Oper) : List Oper → Option (List SOp)
  | [] => some []
  | o :: l => match lowerOper P nt ops o, lowerOps ops l with
    | some a, some m => some (a :: m)
    | _, _ => none

/-! ### Regions whose order is open -/
/-- What each operation waits for. -/
def ancs : List Oper → List (List Nat) → List (List Nat)
  | [], acc => acc
  | o :: l, acc => ancs l (acc ++ [((o.after.toList.filter (Region.binds .any)).flatMap fun e => e.on :: acc.getD e.on []).eraseDups])

def isAnc (A : List (List Nat)) (i k : Nat) : Bool := (A.getD i []).contains k

/-- The edges lead back; and what is waited for is waited for through an edge. -/
def chkA (ops : Array Oper) (A : List (List Nat)) : Bool :=
  (List.range ops.size).all fun i =>
    match ops[i]? with
    | some o =>
      (o.after.toList.all fun e => !Region.binds .any e || decide (e.on < i)) &&
      (A.getD i []).all fun k => o.after.toList.any fun e => Region.binds .any e && (e.on == k || isAnc A e.on k)
    | none => false

/-- The temporaries: whoever looks at one stands before or behind whoever writes it; each has one writer. -/
def chkT (ops : Array Oper) (A : List (List Nat)) : Bool :=
  (List.range ops.size).all fun i =>
    match ops[i]? with
    | some o =>
      (List.range ops.size).all fun k =>
        match (ops[k]?).bind (·.dst) with
        | some t => i == k || ((!(o.looksAt ops).contains t || isAnc A i k || isAnc A k i) && o.dst != some t)
        | none => true
    | none => false

/-- The loud ones stand in one order. -/
def chkL (md : Bool) (l : List SOp) (A : List (List Nat)) : Bool :=
  (List.range l.length).all fun k => (List.range k).all fun i =>
    match l[i]?, l[k]? with
    | some a, some b => !(a.o.cls md == .loud) || !(b.o.cls md == .loud) || isAnc A k i
    | _, _ => false

def loudsBefore (md : Bool) (l : List SOp) (A : List (List Nat)) (i : Nat) : Nat :=
  ((List.range l.length).filter fun k => (match l[k]? with | some s => s.o.cls md == .loud | none => false) && isAnc A i k).length

def loudsNotBehind (md : Bool) (l : List SOp) (A : List (List Nat)) (i : Nat) : Nat :=
  ((List.range l.length).filter fun k => (match l[k]? with | some s => s.o.cls md == .loud | none => false) && !isAnc A k i).length

def withRange (md : Bool) (l : List SOp) (A : List (List Nat)) : Nat → List SOp → List DOp
  | _, [] => []
  | i, s :: m => { s with lo := loudsBefore md l A i, hi := loudsNotBehind md l A i } :: withRange md l A (i + 1) m

def lowerD (ops : Array Oper) : Option (Bool × List DOp) :=
  match lowerOps P nt ops ops.toList with
  | some l =>
    let A := ancs ops.toList []
    if chkA ops A && chkT ops A then
      if chkL false l A then some (false, withRange false l A 0 l)
      else if chkL true l A then some (true, withRange true l A 0 l)
      else none
    else none
  | none => none

/-- A statement that the evaluator cannot do. -/
def noS : S := .reg [⟨none, none, .no⟩]

def lowerCode : Code → Option S
  | .skip | .label _ => some .skip
  | .seq a b => match lowerCode a, lowerCode b with
    | some x, some y => some (.seq x y)
    | _, _ => none
  | .cond c a b => match lowerOpd c, lowerCode a, lowerCode b with
    | some z, some x, some y => some (.cond z x y)
    | _, _, _ => none
  | .block id a => (lowerCode a).map (.block id)
  | .loop a => (lowerCode a).map .loop
  | .exit id => some (.exit id)
  | .ret => some .ret
  | .region _ ops false => some (match lowerOps P nt ops ops.toList with | some l => .reg l | none => noS)
  | .region _ ops true => some (match lowerD P nt ops with | some r => .dreg r.1 r.2 | none => noS)
  | .rangeFunc g ps a b => match lowerOpd g, lowerCode a, lowerCode b with
    | some x, some y, some z => if y.plain = true ∧ z.plain = true ∧ ps.toList.all (fun t => decide (t < nt)) = true then some (.range x ps.toList y z) else some noS
    | _, _, _ => some noS
  | _ => some noS

def lowerRes : List ResultVar → Option (List RV)
  | [] => some []
  | .tmp t :: l => (lowerRes l).map (.tmp t :: ·)
  | .cell a t :: l => match aggT P t, lowerRes l with
    | some g, some m => some (.cell a g :: m)
    | _, _ => none

/-- Does a call get deferred here? -/
def hasDefer : Code → Bool
  | .seq a b | .cond _ a b | .rangeFunc _ _ a b => hasDefer a || hasDefer b
  | .block _ a | .loop a | .scope a => hasDefer a
  | .region _ ops _ => ops.toList.any fun o => match o.op with | .defer _ => true | _ => false
  | _ => false

/-- A region that ends in a deferred call. -/
def lowerDfr (ops : Array Oper) : Option SB :=
  match ops.toList.getLast? with
  | some ⟨none, .defer c, _, _, _, none⟩ =>
    match c.callee with
    | .value f => match lowerOps P nt ops ops.toList.dropLast, lowerOpd f, lowerOpds c.args.toList with
      | some l, some g, some as => some (.seq (.s (.reg l)) (.dfr g as))
      | _, _, _ => none
    | _ => none
  | _ => none

/-- The same, of a region whose order is open: what is deferred waits for all else. -/
def lowerDfrD (ops : Array Oper) : Option SB :=
  match ops.toList.getLast? with
  | some ⟨none, .defer c, _, _, _, none⟩ =>
    if chkA ops (ancs ops.toList []) && (List.range ops.pop.size).all (isAnc (ancs ops.toList []) ops.pop.size) && (ops.pop.toList.all fun o => match o.guard with | none => true | some (j, _) => decide (j < ops.pop.size)) then
      match c.callee with
      | .value f => match lowerD P nt ops.pop, lowerOpd f, lowerOpds c.args.toList with
        | some r, some g, some as => some (.seq (.s (.dreg r.1 r.2)) (.dfr g as))
        | _, _, _ => none
      | _ => none
    else none
  | _ => none

def plainS : Option S → Option SB
  | some s => if s.plain = true then some (.s s) else none
  | none => none

def lowerB : Code → Option SB
  | .seq a b => if hasDefer (.seq a b) = true then
      match lowerB a, lowerB b with
      | some x, some y => some (.seq x y)
      | _, _ => none
    else plainS (lowerCode P nt (.seq a b))
  | .region id ops false => if hasDefer (.region id ops false) = true then lowerDfr P nt ops else plainS (lowerCode P nt (.region id ops false))
  | .region id ops true => if hasDefer (.region id ops true) = true then lowerDfrD P nt ops else plainS (lowerCode P nt (.region id ops true))
  | c => if hasDefer c = true then none else plainS (lowerCode P nt c)

/-- A function that defers calls. -/
def lowerFnB (f : Func) : Option SBFn :=
  match f.body with
  | some c => if hasDefer c = true then
      match lowerRes P f.results.toList, lowerB P f.ntmps c with
      | some r, some s => some ⟨r, s⟩
      | _, _ => none
    else none
  | none => none

/-- A function, and how many parameters it takes. -/
def lowerFn (f : Func) : Option SFn :=
  match f.body with
  | some c => match lowerRes P f.results.toList, lowerCode P f.ntmps c with
    | some r, some s => some ⟨r, s⟩
    | _, _ => none
  | none => none

end Go.Lite
