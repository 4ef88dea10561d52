/-
  LITE, part a: a small evaluator over a heap of its own blocks. Own work of this session: definitions alone.
-/
import Derived.Calls
import Derived.LoopN
import Derived.Orders
import Derived.Below
import Derived.Tactics
set_option linter.unusedSectionVars false
set_option linter.unusedSimpArgs false
set_option linter.unusedVariables false
namespace Go.Lite
set_option linter.unusedSectionVars false
set_option linter.unusedVariables false
set_option linter.unusedSimpArgs false

/-- A capacity that is known, or one that is not: up to the end of what was made for elements of so many cells. -/
inductive Cap where
  | known (n : Nat)
  | more (esz : Nat)
  deriving DecidableEq, Inhabited

/-- A value as the evaluator has it: an address is a block of the evaluator's own and an offset. 'junk': nothing is known of it. -/
inductive AV where
  | int (k : IntKind) (n : Int)
  | bool (b : Bool)
  | str (s : ByteArray)
  | ptr (a : Option (Nat × Nat))
  | slice (a : Option (Nat × Nat)) (len : Nat) (cap : Cap)
  | func (f : FuncId) (first caps : List AV)
  | nilFunc
  | map (b : Option Nat)
  | yield (b : Nat)      -- what a loop over a function hands to it: its record
  | agg (cells : List AV)
  | tuple (vs : List AV)
  | junk
  deriving Inhabited

def AV.undef : AV := .tuple []

/-- May it lie in one cell, and is it known? -/
def AV.one : AV → Bool
  | .agg _ | .tuple _ | .junk => false
  | _ => true

def AV.cells : AV → List AV
  | .agg l => l
  | v => [v]

mutual
def AV.beq : AV → AV → Bool
  | .int k n, .int k' n' => k == k' && n == n'
  | .bool a, .bool b => a == b
  | .str a, .str b => decide (a = b)
  | .ptr a, .ptr b => a == b
  | .slice a n c, .slice a' n' c' => a == a' && n == n' && decide (c = c')
  | .func f a b, .func f' a' b' => f == f' && AV.beqs a a' && AV.beqs b b'
  | .nilFunc, .nilFunc => true
  | .map a, .map b => a == b
  | .yield a, .yield b => a == b
  | .agg a, .agg b => AV.beqs a b
  | .tuple a, .tuple b => AV.beqs a b
  | _, _ => false
def AV.beqs : List AV → List AV → Bool
  | [], [] => true
  | a :: l, b :: m => AV.beq a b && AV.beqs l m
  | _, _ => false
end

/-! ### A map from numbers -/
inductive T (α : Type) where
  | nil
  | node (l : T α) (v : Option α) (r : T α)

namespace T
variable {α : Type}
def get : T α → Nat → Option α
  | .nil, _ => none
  | .node _ v _, 0 => v
  | .node l _ r, m + 1 => cond (Nat.beq (m % 2) 0) (l.get (m / 2)) (r.get (m / 2))
def left : T α → T α
  | .nil => .nil
  | .node l _ _ => l
def right : T α → T α
  | .nil => .nil
  | .node _ _ r => r
def val : T α → Option α
  | .nil => none
  | .node _ v _ => v
def setF : Nat → T α → Nat → Option α → T α
  | 0, t, _, _ => t
  | _ + 1, t, 0, a => .node t.left a t.right
  | f + 1, t, m + 1, a => cond (Nat.beq (m % 2) 0) (.node (setF f t.left (m / 2) a) t.val t.right) (.node t.left t.val (setF f t.right (m / 2) a))
def set (t : T α) (n : Nat) (a : Option α) : T α := setF (n + 1) t n a
end T

/-! ### Operations -/
inductive Opd where
  | t (n : Nat)
  | c (v : AV)
  | f (g : FuncId)

/-- The kind of a cell that '==' may look at. -/
inductive CK where
  | int (k : IntKind)
  | bool
  | str

inductive EqK where
  | bool
  | ptr
  | slice
  | func
  | flat (l : List CK)

inductive SlK where
  | str
  | slice (esz : Nat)
  | arr (n esz : Nat)

inductive O where
  | mov (x : Opd)
  | pick (c a b : Opd)
  | new (cells : List AV)
  | box (x : Opd)
  | build (zero : List AV) (parts : List (Nat × Nat × Opd))
  | buildSlice (len : Nat) (zero : List AV) (parts : List (Nat × Nat × Opd))
  | load (agg : Option Nat) (a : Opd)
  | store (size : Nat) (a x : Opd)
  | nilCheck (x : Opd)
  | bin (op : BinOp) (x y : Opd)
  | eq (neg : Bool) (k : EqK) (x y : Opd)
  | un (op : UnOp) (x : Opd)
  | convInt (k : IntKind) (x : Opd)
  | convId (x : Opd)
  | slice (k : SlK) (x : Opd) (lo hi mx : Option Opd)
  | fieldAddr (off : Nat) (x : Opd)
  | field (off : Nat) (agg : Option Nat) (x : Opd)
  | indexAddr (arr : Option Nat) (esz : Nat) (x i : Opd)
  | indexStr (x i : Opd)
  | indexArr (n esz : Nat) (agg : Option Nat) (x i : Opd)
  | extract (x : Opd) (i : Nat)
  | len (s : Bool) (x : Opd)
  | const (v : AV)
  | cap (x : Opd)
  | append (esz bytes : Nat) (x y : Opd)
  | appendZ (bytes : Nat) (zero : List AV) (x k : Opd)
  | copy (esz : Nat) (x y : Opd)
  | makeSlice (bytes : Nat) (zero : List AV) (l c : Opd)
  | makeFunc (f : FuncId) (first caps : List Opd)
  | minmax (mx : Bool) (x y : Opd)
  | call (f : Opd) (args : List Opd)
  | makeMap
  | lookup (c : CK) (zero : AV) (ok : Bool) (m k : Opd)
  | mapUpd (c : CK) (m k v : Opd)
  | mapLen (m : Opd)
  | mapDel (c : CK) (m k : Opd)
  | clear (zero : List AV) (x : Opd)
  | rangeMap (m : Opd)
  | nextMap (it : Opd)
  | entryMap (it : Opd)
  | no      -- what the evaluator cannot do: a run that comes here has no answer

structure SOp where
  dst : Option Nat
  guard : Option (Nat × Bool)
  o : O

structure DOp extends SOp where
  lo : Nat
  hi : Nat

inductive S where
  | skip
  | seq (a b : S)
  | cond (c : Opd) (a b : S)
  | block (id : Nat) (a : S)
  | loop (a : S)
  | exit (id : Nat)
  | ret
  | reg (l : List SOp)
  | dreg (md : Bool) (l : List DOp)
  | range (g : Opd) (ps : List Nat) (assign body : S)

/-- No loop over a function. -/
def S.plain : S → Bool
  | .seq a b | .cond _ a b => a.plain && b.plain
  | .block _ a | .loop a => a.plain
  | .range .. => false
  | _ => true

inductive RV where
  | tmp (t : Nat)
  | cell (t : Nat) (agg : Option Nat)

structure SFn where
  res : List RV
  body : S

/-- A body that defers calls. -/
inductive SB where
  | s (a : S)
  | seq (a b : SB)
  | dfr (f : Opd) (args : List Opd)

structure SBFn where
  res : List RV
  body : SB

abbrev Fr := T AV

/-- The record of a loop over a function: the frame that it was entered with, the variables, the code of a round, and what the last round has left. -/
structure LoopRec where
  fr : Fr
  ps : List Nat
  assign : S
  body : S
  st : LoopState
  pend : Option (Option Nat)

/-! ### The heap -/
inductive BK where
  | own      -- its cells are all that there are
  | grown (esz : Nat)   -- behind its cells there may be more: a slice of it has a capacity that is not known
  | ro       -- it was there before: it is only read
  | map (clock : Nat) (borns : List Nat)      -- a map: its cells are its keys, each with its value behind it; the clock, and when each entry came
  | iter (m : Option Nat) (since : Nat) (seen : List Nat) (last : Nat)      -- a walk over a map
  | loop (r : LoopRec)   -- the record of a loop over a function

instance BK.decOwn (k : BK) : Decidable (k = .own) := match k with
  | .own => isTrue rfl | .grown _ => isFalse (by simp) | .ro => isFalse (by simp) | .map _ _ => isFalse (by simp) | .iter .. => isFalse (by simp) | .loop _ => isFalse (by simp)
instance BK.decRo (k : BK) : Decidable (k = .ro) := match k with
  | .ro => isTrue rfl | .grown _ => isFalse (by simp) | .own => isFalse (by simp) | .map _ _ => isFalse (by simp) | .iter .. => isFalse (by simp) | .loop _ => isFalse (by simp)
instance BK.decGrown (k : BK) (n : Nat) : Decidable (k = .grown n) := match k with
  | .grown m => if h : m = n then isTrue (by rw [h]) else isFalse (by simp [h])
  | .map _ _ => isFalse (by simp) | .own => isFalse (by simp) | .ro => isFalse (by simp) | .iter .. => isFalse (by simp) | .loop _ => isFalse (by simp)

/-- Are its cells none that an address may lead to? -/
def BK.hid : BK → Bool
  | .map _ _ | .iter .. | .loop _ => true
  | _ => false

structure Blk where
  cells : List AV
  kind : BK

structure Hp where
  t : T Blk
  next : Nat

def Hp.get (h : Hp) (b : Nat) : Option Blk := h.t.get b
def Hp.put (h : Hp) (b : Nat) (k : Blk) : Hp := { h with t := h.t.set b (some k) }
def Hp.kill (h : Hp) (b : Nat) : Hp := { h with t := h.t.set b none }
def Hp.new (h : Hp) (k : Blk) : Hp := { t := h.t.set h.next (some k), next := h.next + 1 }

/-- n cells from an address on. -/
def Hp.cells (h : Hp) (a : Nat × Nat) (n : Nat) : Option (List AV) :=
  match h.get a.1 with
  | some k => if k.kind.hid = true then none else if a.2 + n ≤ k.cells.length then some ((k.cells.drop a.2).take n) else none
  | none => none

def Hp.cell (h : Hp) (a : Nat × Nat) : Option AV :=
  match h.get a.1 with
  | some k => if k.kind.hid = true then none else k.cells[a.2]?
  | none => none

def splice (l : List AV) : Nat → List AV → List AV
  | _, [] => l
  | o, v :: vs => splice (l.set o v) (o + 1) vs

/-- Cells written from an address on. -/
def Hp.write (h : Hp) (a : Nat × Nat) (vs : List AV) : Option Hp :=
  match h.get a.1 with
  | some k => if k.kind = .ro ∨ k.kind.hid = true then none else if a.2 + vs.length ≤ k.cells.length then
      (if vs.all AV.one then some (h.put a.1 { k with cells := splice k.cells a.2 vs }) else none) else none
  | none => none


def opd (fr : Fr) : Opd → Option AV
  | .t n => fr.get n
  | .c v => some v
  | .f g => some (.func g [] [])

def opds (fr : Fr) : List Opd → Option (List AV)
  | [] => some []
  | x :: l => match opd fr x, opds fr l with
    | some v, some vs => some (v :: vs)
    | _, _ => none

def optOpd (fr : Fr) : Option Opd → Option (Option AV)
  | none => some none
  | some x => match opd fr x with
    | some v => some (some v)
    | none => none

def optInt : Option AV → Option (Option Int)
  | none => some none
  | some (.int _ n) => some (some n)
  | _ => none

def maxLenB : Nat := 140737488355328

/-! ### The operations' values, the memory left alone -/
def binInt (op : BinOp) (k : IntKind) (a b : Int) : Option AV :=
  match op with
  | .add => some (.int k (k.wrap (a + b)))
  | .sub => some (.int k (k.wrap (a - b)))
  | .mul => some (.int k (k.wrap (a * b)))
  | .quo => if b = 0 then none else some (.int k (k.wrap (a.tdiv b)))
  | .rem => if b = 0 then none else some (.int k (a.tmod b))
  | .and => some (.int k (k.wrap (BitVec.ofInt k.bits a &&& BitVec.ofInt k.bits b).toNat))
  | .or => some (.int k (k.wrap (BitVec.ofInt k.bits a ||| BitVec.ofInt k.bits b).toNat))
  | .xor => some (.int k (k.wrap (BitVec.ofInt k.bits a ^^^ BitVec.ofInt k.bits b).toNat))
  | .andNot => some (.int k (k.wrap (BitVec.ofInt k.bits a &&& ~~~ BitVec.ofInt k.bits b).toNat))
  | .eql => some (.bool (a == b))
  | .neq => some (.bool (a != b))
  | .lss => some (.bool (decide (a < b)))
  | .leq => some (.bool (decide (a ≤ b)))
  | .gtr => some (.bool (decide (a > b)))
  | .geq => some (.bool (decide (a ≥ b)))
  | _ => none

def binStr (op : BinOp) (a b : ByteArray) : Option AV :=
  match op with
  | .add => if a.size + b.size ≤ 9223372036854775807 then some (.str (a ++ b)) else none
  | .eql => some (.bool (a.toList == b.toList))
  | .neq => some (.bool (!(a.toList == b.toList)))
  | .lss => some (.bool (Op.bytesLess a.toList b.toList))
  | .leq => some (.bool (Op.bytesLess a.toList b.toList || a.toList == b.toList))
  | .gtr => some (.bool (!(Op.bytesLess a.toList b.toList || a.toList == b.toList)))
  | .geq => some (.bool (!(Op.bytesLess a.toList b.toList)))
  | _ => none

def shiftA (op : BinOp) (k : IntKind) (a b : Int) : Option AV :=
  if b < 0 then none else
  match op with
  | .shl => some (.int k (k.wrap (a * 2 ^ (min b.toNat k.bits))))
  | .shr => some (.int k (a.fdiv (2 ^ (min b.toNat k.bits))))
  | _ => none

def binA (op : BinOp) (x y : AV) : Option AV :=
  match x, y with
  | .int k a, .int k' b =>
    match op with
    | .shl | .shr => shiftA op k a b
    | _ => if k = k' then binInt op k a b else none
  | .str a, .str b => binStr op a b
  | _, _ => none

def flatEq : List CK → List AV → List AV → Option Bool
  | [], [], [] => some true
  | .int k :: l, .int k1 a :: xs, .int k2 b :: ys => if k1 = k ∧ k2 = k then (flatEq l xs ys).map (fun r => a == b && r) else none
  | .bool :: l, .bool a :: xs, .bool b :: ys => (flatEq l xs ys).map (fun r => a == b && r)
  | .str :: l, .str a :: xs, .str b :: ys => (flatEq l xs ys).map (fun r => a == b && r)
  | _, _, _ => none

def eqA : EqK → AV → AV → Option Bool
  | .bool, .bool a, .bool b => some (a == b)
  | .ptr, .ptr none, .ptr b => some b.isNone
  | .ptr, .ptr (some _), .ptr none => some false
  | .ptr, .ptr (some a), .ptr (some b) => if a.1 = b.1 then some (a.2 == b.2) else none
  | .slice, .slice none _ _, .slice b _ _ => some b.isNone
  | .slice, .slice (some _) _ _, .slice none _ _ => some false
  | .func, .nilFunc, .nilFunc => some true
  | .func, .nilFunc, .func _ _ _ => some false
  | .func, .func _ _ _, .nilFunc => some false
  | .flat l, .agg xs, .agg ys => flatEq l xs ys
  | _, _, _ => none

def unA (op : UnOp) (x : AV) : Option AV :=
  match op, x with
  | .not, .bool b => some (.bool !b)
  | .neg, .int k n => some (.int k (k.wrap (0 - n)))
  | _, _ => none

/-- The bounds of a slice expression: low, high, the new capacity's end. 'cap': the old one. -/
def bounds (len cap : Nat) (lo hi mx : Option Int) : Option (Nat × Nat × Nat) :=
  match (match mx with
    | some v => if 0 ≤ v ∧ v ≤ (cap : Int) then some v.toNat else none
    | none => some cap) with
  | none => none
  | some m =>
    match (match hi, mx with
      | some v, _ => if 0 ≤ v ∧ v ≤ (m : Int) then some v.toNat else none
      | none, none => some len
      | none, some _ => none) with
    | none => none
    | some h =>
      match (match lo with
        | some v => if 0 ≤ v ∧ v ≤ (h : Int) then some v.toNat else none
        | none => some 0) with
      | none => none
      | some l => some (l, h, m)

def sliceA (k : SlK) (x : AV) (lo hi mx : Option Int) : Option AV :=
  match k, x with
  | .str, .str s =>
    match mx, bounds s.size s.size lo hi none with
    | none, some (l, h, _) => some (.str (s.extract l h))
    | _, _ => none
  | .slice esz, .slice a len (.known cap) =>
    match bounds len cap lo hi mx with
    | some (l, h, m) => some (.slice (if m = l then a else a.map fun p => (p.1, p.2 + l * esz)) (h - l) (.known (m - l)))
    | none => none
  | .slice esz, .slice (some p) len (.more e) =>
    if e = esz then
      match bounds len len lo hi mx with
      | some (l, h, m) =>
        match mx with
        | none => some (.slice (some (p.1, p.2 + l * esz)) (h - l) (.more e))
        | some _ => some (.slice (some (if m = l then p else (p.1, p.2 + l * esz))) (h - l) (.known (m - l)))
      | none => none
    else none
  | .arr n esz, .ptr (some p) =>
    match bounds n n lo hi mx with
    | some (l, h, m) => some (.slice (some (if m = l then p else (p.1, p.2 + l * esz))) (h - l) (.known (m - l)))
    | none => none
  | _, _ => none

def lenA : Bool → AV → Option AV
  | true, .str s => some (.int .i64 s.size)
  | false, .slice _ n _ => some (.int .i64 n)
  | _, _ => none

def capA : AV → Option AV
  | .slice _ _ (.known n) => some (.int .i64 n)
  | _ => none

def fillA : List AV → List (Nat × Nat × AV) → Option (List AV)
  | cells, [] => some cells
  | cells, (off, size, v) :: rest =>
    if v.cells.length = size ∧ off + size ≤ cells.length ∧ v.cells.all AV.one = true then fillA (splice cells off v.cells) rest else none

def partsA (fr : Fr) : List (Nat × Nat × Opd) → Option (List (Nat × Nat × AV))
  | [] => some []
  | (o, s, x) :: l => match opd fr x, partsA fr l with
    | some v, some vs => some ((o, s, v) :: vs)
    | _, _ => none

def partA (off : Nat) (agg : Option Nat) (cs : List AV) : Option AV :=
  match agg with
  | some n => if off + n ≤ cs.length then some (.agg ((cs.drop off).take n)) else none
  | none => cs[off]?

/-- The cells of the first n elements. -/
def firstA (h : Hp) (esz n : Nat) : AV → Option (List AV)
  | .slice (some a) _ _ => h.cells a (n * esz)
  | .slice none _ _ => some []
  | .str s => some ((s.data.toList.take n).map fun b => .int .u8 b.toNat)
  | _ => none

def lenOfA : AV → Option Nat
  | .slice _ n _ => some n
  | .str s => some s.size
  | _ => none

/-- Two keys: one, or two; of a kind that may be asked. -/
def keyEq : CK → AV → AV → Option Bool
  | .int _, .int k a, .int k' b => if k = k' then some (a == b) else none
  | .str, .str a, .str b => some (a == b)
  | .bool, .bool a, .bool b => some (a == b)
  | _, _, _ => none

/-- The place of a key among a map's cells, and the value behind it. -/
def mapFind (c : CK) (x : AV) : List AV → Nat → Option (Option (Nat × AV))
  | [], _ => some none
  | a :: v :: l, i =>
    match keyEq c x a with
    | some true => some (some (i, v))
    | some false => mapFind c x l (i + 1)
    | none => none
  | [_], _ => none

def keyOk : CK → AV → Bool
  | .int k, .int k' _ => k == k'
  | .str, .str _ => true
  | .bool, .bool _ => true
  | _, _ => false

def mapSet (c : CK) (x v : AV) (cells : List AV) (clk : Nat) (bs : List Nat) : Option Blk :=
  match mapFind c x cells 0 with
  | some (some (i, _)) => some ⟨(cells.set (2 * i) x).set (2 * i + 1) v, .map clk bs⟩
  | some none => some ⟨cells ++ [x, v], .map (clk + 1) (bs ++ [clk])⟩
  | none => none

/-- A key's value. -/
def lookA (h : Hp) (c : CK) (zero : AV) (ok : Bool) (m : Option Nat) (x : AV) : Option AV :=
  match m with
  | none => if keyOk c x then some (if ok then .tuple [zero, .bool false] else zero) else none
  | some b =>
    match h.get b with
    | some ⟨cells, .map _ _⟩ =>
      if keyOk c x = true then
        match mapFind c x cells 0 with
        | some (some (_, v)) => some (if ok then .tuple [v, .bool true] else v)
        | some none => some (if ok then .tuple [zero, .bool false] else zero)
        | none => none
      else none
    | _ => none

/-- The entry that came then. -/
def entA (st : Nat) : List AV → List Nat → Option (AV × AV)
  | k :: v :: l, b :: bs => if b = st then some (k, v) else entA st l bs
  | _, _ => none

/-- The next entry of a walk over a map, where there is but one that may come. -/
def nextA (cells : List AV) (clk : Nat) (bs : List Nat) (since : Nat) (seen : List Nat) (last : Nat) : Option (AV × Option (List Nat)) :=
  if seen ≠ [] ∧ bs ≠ [] ∧ bs.all (fun b => decide (last ≤ b)) = true then none else
  match bs.filter (fun b => !seen.contains b) with
  | [] => some (.tuple [.bool false], none)
  | [b] => if b < since then (entA b cells bs).map fun q => (.tuple [.bool true, q.1, q.2], some (seen ++ [b])) else none
  | _ => none

/-- What is called: a function, or a round of a loop over a function. -/
inductive Tgt where
  | fn (f : FuncId)
  | it (f : FuncId)      -- a function that is ranged over: one with a text
  | yld (b : Nat)

inductive Out where
  | val (v : AV)
  | call (f : Tgt) (args : List AV)

/-- Behind an append: the new cells are known ('more' behind 'old'). -/
def growA (h : Hp) (esz n k : Nat) (base : Option (Nat × Nat)) (cap : Cap) (old more : List AV) : Option (AV × Hp) :=
  match cap with
  | .known c =>
    if n + k ≤ c then
      match base with
      | some a => match h.write (a.1, a.2 + n * esz) more with
        | some h' => some (.slice base (n + k) cap, h')
        | none => none
      | none => none
    else some (.slice (some (h.next, 0)) (n + k) (.more esz), h.new ⟨old ++ more, .grown esz⟩)
  | .more e =>
    match base with
    | some a =>
      match h.get a.1 with
      | some blk => if blk.kind = .grown esz ∧ e = esz then some (.slice (some (h.next, 0)) (n + k) (.more esz), (h.kill a.1).new ⟨old ++ more, .grown esz⟩) else none
      | none => none
    | none => none

def appendA (h : Hp) (esz bytes : Nat) (x y : AV) : Option (AV × Hp) :=
  match x, lenOfA y with
  | .slice base n cap, some k =>
    if k = 0 then some (x, h) else
    if (n + k) * bytes ≤ maxLenB ∧ n + k ≤ maxLenB then
      match firstA h esz n x, firstA h esz k y with
      | some old, some more => if more.all AV.one = true ∧ more.length = k * esz ∧ old.length = n * esz then growA h esz n k base cap old more else none
      | _, _ => none
    else none
  | _, _ => none

/-- 'append(x, make([]E, k)...)': 'zero' is an element's. -/
def appendZA (h : Hp) (bytes : Nat) (zero : List AV) (x : AV) (k : Int) : Option (AV × Hp) :=
  match x with
  | .slice base n cap =>
    if 0 ≤ k then
      if k = 0 then some (x, h) else
      if (n + k.toNat) * bytes ≤ maxLenB ∧ n + k.toNat ≤ maxLenB then
        match firstA h zero.length n x with
        | some old => if zero.all AV.one = true ∧ old.length = n * zero.length then growA h zero.length n k.toNat base cap old (List.replicate k.toNat zero).flatten else none
        | none => none
      else none
    else none
  | _ => none

def evalO (fr : Fr) (h : Hp) : O → Option (Out × Hp)
  | .mov x => (opd fr x).map fun v => (.val v, h)
  | .const v => some (.val v, h)
  | .pick c a b =>
    match opd fr c, opd fr a, opd fr b with
    | some (.bool t), some x, some y => some (.val (if t then x else y), h)
    | _, _, _ => none
  | .new cells => some (.val (.ptr (some (h.next, 0))), h.new ⟨cells, .own⟩)
  | .box x =>
    match opd fr x with
    | some v => if v.cells.all AV.one = true then some (.val (.ptr (some (h.next, 0))), h.new ⟨v.cells, .own⟩) else none
    | none => none
  | .build zero parts =>
    match partsA fr parts with
    | some l => (fillA zero l).map fun cs => (.val (.agg cs), h)
    | none => none
  | .buildSlice len zero parts =>
    match partsA fr parts with
    | some l => (fillA zero l).map fun cs => (.val (.slice (some (h.next, 0)) len (.known len)), h.new ⟨cs, .own⟩)
    | none => none
  | .load agg a =>
    match opd fr a with
    | some (.ptr (some p)) =>
      match agg with
      | some n => (h.cells p n).map fun l => (.val (.agg l), h)
      | none => (h.cell p).map fun v => (.val v, h)
    | _ => none
  | .store size a x =>
    match opd fr a, opd fr x with
    | some (.ptr (some p)), some v => if v.cells.length = size then (h.write p v.cells).map fun h' => (.val .undef, h') else none
    | _, _ => none
  | .nilCheck x =>
    match opd fr x with
    | some (.ptr (some p)) => some (.val (.ptr (some p)), h)
    | some (.func f a b) => some (.val (.func f a b), h)
    | _ => none
  | .bin op x y =>
    match opd fr x, opd fr y with
    | some a, some b => (binA op a b).map fun v => (.val v, h)
    | _, _ => none
  | .eq neg k x y =>
    match opd fr x, opd fr y with
    | some a, some b => (eqA k a b).map fun v => (.val (.bool (if neg then !v else v)), h)
    | _, _ => none
  | .un op x =>
    match opd fr x with
    | some a => (unA op a).map fun v => (.val v, h)
    | none => none
  | .convInt k x =>
    match opd fr x with
    | some (.int _ n) => some (.val (.int k (k.wrap n)), h)
    | _ => none
  | .convId x =>
    match opd fr x with
    | some (.str s) => some (.val (.str s), h)
    | _ => none
  | .slice k x lo hi mx =>
    match opd fr x, optOpd fr lo, optOpd fr hi, optOpd fr mx with
    | some v, some l, some i, some m =>
      match optInt l, optInt i, optInt m with
      | some l, some i, some m => (sliceA k v l i m).map fun v => (.val v, h)
      | _, _, _ => none
    | _, _, _, _ => none
  | .fieldAddr off x =>
    match opd fr x with
    | some (.ptr (some p)) => some (.val (.ptr (some (p.1, p.2 + off))), h)
    | _ => none
  | .field off agg x =>
    match opd fr x with
    | some (.agg cs) => (partA off agg cs).map fun v => (.val v, h)
    | _ => none
  | .indexAddr arr esz x i =>
    match opd fr x, opd fr i with
    | some (.ptr (some p)), some (.int _ n) =>
      match arr with
      | some len => if 0 ≤ n ∧ n < (len : Int) then some (.val (.ptr (some (p.1, p.2 + n.toNat * esz))), h) else none
      | none => none
    | some (.slice (some p) len _), some (.int _ n) =>
      match arr with
      | none => if 0 ≤ n ∧ n < (len : Int) then some (.val (.ptr (some (p.1, p.2 + n.toNat * esz))), h) else none
      | some _ => none
    | _, _ => none
  | .indexStr x i =>
    match opd fr x, opd fr i with
    | some (.str s), some (.int _ n) => if 0 ≤ n then (s.data.toList[n.toNat]?).map fun b => (.val (.int .u8 b.toNat), h) else none
    | _, _ => none
  | .indexArr n esz agg x i =>
    match opd fr x, opd fr i with
    | some (.agg cs), some (.int _ j) => if 0 ≤ j ∧ j < (n : Int) then (partA (j.toNat * esz) agg cs).map fun v => (.val v, h) else none
    | _, _ => none
  | .extract x i =>
    match opd fr x with
    | some (.tuple vs) => (vs[i]?).map fun v => (.val v, h)
    | _ => none
  | .len s x =>
    match opd fr x with
    | some v => (lenA s v).map fun v => (.val v, h)
    | none => none
  | .cap x =>
    match opd fr x with
    | some v => (capA v).map fun v => (.val v, h)
    | none => none
  | .append esz bytes x y =>
    match opd fr x, opd fr y with
    | some a, some b => (appendA h esz bytes a b).map fun r => (.val r.1, r.2)
    | _, _ => none
  | .appendZ bytes zero x y =>
    match opd fr x, opd fr y with
    | some a, some (.int _ k) => (appendZA h bytes zero a k).map fun r => (.val r.1, r.2)
    | _, _ => none
  | .copy esz x y =>
    match opd fr x, opd fr y with
    | some (.slice base n _), some b =>
      match lenOfA b with
      | some k =>
        match firstA h esz (Nat.min k n) b, base with
        | some cs, some a => (h.write a cs).map fun h' => (.val (.int .i64 (Nat.min k n)), h')
        | some _, none => some (.val (.int .i64 (Nat.min k n)), h)
        | none, _ => none
      | none => none
    | _, _ => none
  | .makeSlice bytes zero l c =>
    match opd fr l, opd fr c with
    | some (.int _ n), some (.int _ m) =>
      if 0 ≤ n ∧ n ≤ m ∧ m * bytes ≤ maxLenB ∧ m < 4611686018427387904 then
        some (.val (.slice (some (h.next, 0)) n.toNat (.known m.toNat)), h.new ⟨(List.replicate m.toNat zero).flatten, .own⟩)
      else none
    | _, _ => none
  | .makeFunc f first caps =>
    match opds fr first, opds fr caps with
    | some a, some b => some (.val (.func f a b), h)
    | _, _ => none
  | .minmax mx x y =>
    match opd fr x, opd fr y with
    | some (.int k a), some (.int k' b) => if k = k' then some (.val (.int k (if mx then (if b > a then b else a) else (if b < a then b else a))), h) else none
    | _, _ => none
  | .call f args =>
    match opd fr f, opds fr args with
    | some (.func g first caps), some l => some (.call (.fn g) (first ++ l ++ caps), h)
    | some (.yield b), some l => some (.call (.yld b) l, h)
    | _, _ => none
  | .makeMap => some (.val (.map (some h.next)), h.new ⟨[], .map 0 []⟩)
  | .lookup c zero ok m k =>
    match opd fr m, opd fr k with
    | some (.map b), some x => (lookA h c zero ok b x).map fun v => (.val v, h)
    | _, _ => none
  | .mapUpd c m k v =>
    match opd fr m, opd fr k, opd fr v with
    | some (.map (some b)), some x, some y =>
      match h.get b with
      | some ⟨cells, .map clk bs⟩ =>
        if keyOk c x = true then
          (mapSet c x y cells clk bs).map fun l => (.val .undef, h.put b l)
        else none
      | _ => none
    | _, _, _ => none
  | .mapLen m =>
    match opd fr m with
    | some (.map none) => some (.val (.int .i64 0), h)
    | some (.map (some b)) =>
      match h.get b with
      | some ⟨cells, .map _ _⟩ => some (.val (.int .i64 (cells.length / 2 : Nat)), h)
      | _ => none
    | _ => none
  | .mapDel c m k =>
    match opd fr m, opd fr k with
    | some (.map (some b)), some x =>
      match h.get b with
      | some ⟨cells, .map clk bs⟩ =>
        if keyOk c x = true then
          match mapFind c x cells 0 with
          | some (some (i, _)) => some (.val .undef, h.put b ⟨cells.eraseIdx (2 * i) |>.eraseIdx (2 * i), .map clk (bs.eraseIdx i)⟩)
          | some none => some (.val .undef, h.put b ⟨cells, .map clk bs⟩)
          | none => none
        else none
      | _ => none
    | _, _ => none
  | .clear zero x =>
    match opd fr x with
    | some (.slice _ 0 _) => some (.val .undef, h)
    | some (.slice (some a) n _) => (h.write a (List.replicate n zero).flatten).map fun h' => (.val .undef, h')
    | _ => none
  | .rangeMap m =>
    match opd fr m with
    | some (.map none) => some (.val (.ptr (some (h.next, 0))), h.new ⟨[], .iter none 0 [] 0⟩)
    | some (.map (some b)) =>
      match h.get b with
      | some ⟨_, .map clk _⟩ => some (.val (.ptr (some (h.next, 0))), h.new ⟨[], .iter (some b) clk [] clk⟩)
      | _ => none
    | _ => none
  | .nextMap it =>
    match opd fr it with
    | some (.ptr (some (r, 0))) =>
      match h.get r with
      | some ⟨_, .iter none _ _ _⟩ => some (.val (.tuple [.bool false]), h)
      | some ⟨_, .iter (some b) since seen last⟩ =>
        match h.get b with
        | some ⟨cells, .map clk bs⟩ => (nextA cells clk bs since seen last).map fun q => (.val q.1, match q.2 with | some sn => h.put r ⟨[], .iter (some b) since sn clk⟩ | none => h)
        | _ => none
      | _ => none
    | _ => none
  | .entryMap it =>
    match opd fr it with
    | some (.ptr (some (r, 0))) =>
      match h.get r with
      | some ⟨_, .iter (some b) _ seen last⟩ =>
        match h.get b, seen.getLast? with
        | some ⟨cells, .map clk bs⟩, some st => if clk = last then (entA st cells bs).map fun q => (.val (.tuple [q.1, q.2]), h) else none
        | _, _ => none
      | _ => none
    | _ => none
  | .no => none

abbrev Callee := Tgt → List AV → Hp → Option (AV × Hp)

def putO (fr : Fr) (dst : Option Nat) (v : AV) : Fr :=
  match dst with
  | some d => fr.set d (some v)
  | none => fr

/-- Is it carried out? -/
def wantedA (fr : Fr) : Option (Nat × Bool) → Option Bool
  | none => some true
  | some (t, want) => match fr.get t with
    | some (.bool b) => some (b == want)
    | some .junk => none
    | some _ => some false
    | none => none

/-- One operation. -/
def evalOp (call : Callee) (fr : Fr) (h : Hp) (o : O) : Option (AV × Hp) :=
  match evalO fr h o with
  | some (.val v, h') => some (v, h')
  | some (.call f args, h') => call f args h'
  | none => none

def evalOps (call : Callee) : List SOp → Fr → Hp → Option (Fr × Hp)
  | [], fr, h => some (fr, h)
  | s :: rest, fr, h =>
    match wantedA fr s.guard with
    | some true =>
      match evalOp call fr h s.o with
      | some (v, h') => evalOps call rest (putO fr s.dst v) h'
      | none => none
    | some false => evalOps call rest (putO fr s.dst .undef) h
    | none => none

/-! ### A region whose order is open -/
def loadA (h : Hp) (p : Nat × Nat) (agg : Option Nat) : Option AV :=
  match agg with
  | some n => (h.cells p n).map AV.agg
  | none => h.cell p

/-- What is read. -/
inductive RK where
  | load (p : Nat × Nat) (agg : Option Nat)
  | look (c : CK) (zero : AV) (ok : Bool) (b : Option Nat) (x : AV)

def readA (h : Hp) : RK → Option AV
  | .load p agg => loadA h p agg
  | .look c zero ok b x => lookA h c zero ok b x

def readK (fr : Fr) : O → Option RK
  | .load agg a =>
    match opd fr a with
    | some (.ptr (some p)) => some (.load p agg)
    | _ => none
  | .lookup c zero ok m k =>
    match opd fr m, opd fr k with
    | some (.map b), some x => some (.look c zero ok b x)
    | _, _ => none
  | _ => none

/-- What is read, and from which memory of the region to which. -/
structure RD where
  rk : RK
  v : AV
  lo : Nat
  hi : Nat

inductive Cls where
  | new | pure | read | loud
  deriving DecidableEq

/-- Where allocations have their numbers ahead of the region ('md'), they are none of the loud ones. -/
def O.cls (md : Bool) : O → Cls
  | .new _ => .new
  | .load .. | .lookup .. => .read
  | .buildSlice .. | .makeSlice .. | .makeMap => cond md .new .loud
  | .box _ | .store .. | .append .. | .appendZ .. | .copy .. | .call .. | .mapUpd .. | .mapLen .. | .mapDel .. | .clear .. | .rangeMap .. | .nextMap .. | .entryMap .. => .loud
  | _ => .pure

/-- What an allocation leaves: a pointer, a slice, or a map. -/
inductive NV where
  | ptr
  | slice (n c : Nat)
  | map

def O.kind : O → BK
  | .makeMap => .map 0 []
  | _ => .own

/-- What an allocation allocates, and what it leaves. -/
def newOf (fr : Fr) : O → Option (List AV × NV)
  | .new cells => some (cells, .ptr)
  | .box x =>
    match opd fr x with
    | some v => if v.cells.all AV.one then some (v.cells, .ptr) else none
    | none => none
  | .buildSlice len zero parts =>
    match partsA fr parts with
    | some l => (fillA zero l).map fun cs => (cs, .slice len len)
    | none => none
  | .makeSlice bytes zero l c =>
    match opd fr l, opd fr c with
    | some (.int _ n), some (.int _ m) =>
      if 0 ≤ n ∧ n ≤ m ∧ m * bytes ≤ maxLenB ∧ m < 4611686018427387904 then some ((List.replicate m.toNat zero).flatten, .slice n.toNat m.toNat) else none
    | _, _ => none
  | .makeMap => some ([], .map)
  | _ => none

def mkV : NV → Nat → AV
  | .ptr, id => .ptr (some (id, 0))
  | .slice n c, id => .slice (some (id, 0)) n (.known c)
  | .map, id => .map (some id)

/-- What the allocations will hold: told ahead, and held against what comes. -/
def guess0 : List DOp → List (List AV)
  | [] => []
  | d :: l => (match d.o with | .new cells => cells | _ => []) :: guess0 l

/-- The temporaries that an allocation looks at. -/
def newUses : O → List Nat
  | .makeSlice _ _ l c => [l, c].filterMap fun | .t n => some n | _ => none
  | .buildSlice _ _ ps => ps.filterMap fun p => match p.2.2 with | .t n => some n | _ => none
  | .box x => match x with | .t n => [n] | _ => []
  | _ => []

/-- Does an allocation need what a call ahead of it leaves? -/
def needsCall : List DOp → Bool
  | [] => false
  | d :: l => (match d.o, d.dst with | .call .., some t => l.any fun e => e.o.cls true = .new && (newUses e.o).contains t | _, _ => false) || needsCall l

def guessD (call : Callee) (nc : Bool) : List DOp → Nat → Fr → Hp → List (List AV)
  | [], _, _, _ => []
  | d :: l, id, fr, h =>
    match wantedA fr d.guard with
    | some true =>
      match d.o.cls true with
      | .new =>
        match newOf fr d.o with
        | some (cs, q) => cs :: guessD call nc l (id + 1) (putO fr d.dst (mkV q id)) h
        | none => [] :: guessD call nc l (id + 1) (putO fr d.dst .undef) h
      | .loud =>
        cond nc (match evalOp call fr h d.o with
          | some (v, h') => [] :: guessD call nc l id (putO fr d.dst v) h'
          | none => [] :: guessD call nc l id (putO fr d.dst .undef) h) ([] :: guessD call nc l id (putO fr d.dst .undef) h)
      | _ =>
        match evalO fr h d.o with
        | some (.val v, _) => [] :: guessD call nc l id (putO fr d.dst v) h
        | _ => [] :: guessD call nc l id (putO fr d.dst .undef) h
    | _ => if d.o.cls true = .new then [] :: guessD call nc l (id + 1) (putO fr d.dst .undef) h else [] :: guessD call nc l id (putO fr d.dst .undef) h

def hoist (md : Bool) : List DOp → List (List AV) → Hp → List (Nat × List AV) × Hp
  | [], _, h => ([], h)
  | d :: l, g, h =>
    if d.o.cls md = .new then
      let r := hoist md l g.tail (h.new ⟨g.headD [], d.o.kind⟩)
      ((h.next, g.headD []) :: r.1, r.2)
    else
      let r := hoist md l g.tail h
      ((0, []) :: r.1, r.2)

/-- In the text's order; the memories behind each loud operation, the first one the region's. -/
def evalD (call : Callee) (md : Bool) : List DOp → List (Nat × List AV) → Fr → Hp → List Hp → List RD → Option (Fr × List Hp × List RD)
  | [], _, fr, _, hs, rs => some (fr, hs, rs)
  | d :: rest, ids, fr, h, hs, rs =>
    match wantedA fr d.guard with
    | some false => evalD call md rest ids.tail (putO fr d.dst .undef) h (if d.o.cls md = .loud then hs ++ [h] else hs) rs
    | some true =>
      match d.o.cls md with
      | .new =>
        match newOf fr d.o with
        | some (cs, q) => if AV.beq (.agg cs) (.agg (ids.headD (0, [])).2) then evalD call md rest ids.tail (putO fr d.dst (mkV q (ids.headD (0, [])).1)) h hs rs else none
        | none => none
      | .pure =>
        match evalOp call fr h d.o with
        | some (v, _) => evalD call md rest ids.tail (putO fr d.dst v) h hs rs
        | none => none
      | .read =>
        match readK fr d.o with
        | some rk =>
          match readA h rk with
          | some v => evalD call md rest ids.tail (putO fr d.dst v) h hs (⟨rk, v, d.lo, d.hi⟩ :: rs)
          | none => none
        | none => none
      | .loud =>
        match evalOp call fr h d.o with
        | some (v, h') => evalD call md rest ids.tail (putO fr d.dst v) h' (hs ++ [h']) rs
        | none => none
    | none => none

/-- Read again in each memory in which it may come up. -/
def readsOk (hs : List Hp) : List RD → Bool
  | [] => true
  | r :: rs => ((hs.take (r.hi + 1)).drop r.lo).all (fun h => match readA h r.rk with | some v => AV.beq v r.v | none => false) && readsOk hs rs

def evalDreg (call : Callee) (md : Bool) (l : List DOp) (fr : Fr) (h : Hp) : Option (Fr × Hp) :=
  let r := hoist md l (cond md (guessD call (needsCall l) l h.next fr (hoist md l (guess0 l) h).2) (guess0 l)) h
  match evalD call md l r.1 fr r.2 [r.2] [] with
  | some (fr', hs, rs) => if readsOk hs rs then (match hs.getLast? with | some h' => some (fr', h') | none => none) else none
  | none => none

inductive X where
  | normal
  | exit (id : Nat)
  | ret

def iter (body : Fr → Hp → Option (X × Fr × Hp)) : Nat → Fr → Hp → Option (X × Fr × Hp)
  | 0, _, _ => none
  | m + 1, fr, h =>
    match body fr h with
    | some (.normal, fr', h') => iter body m fr' h'
    | r => r

def evalS (call : Callee) (n : Nat) : S → Fr → Hp → Option (X × Fr × Hp)
  | .skip, fr, h => some (.normal, fr, h)
  | .seq a b, fr, h =>
    match evalS call n a fr h with
    | some (.normal, fr', h') => evalS call n b fr' h'
    | r => r
  | .cond c a b, fr, h =>
    match opd fr c with
    | some (.bool true) => evalS call n a fr h
    | some (.bool false) => evalS call n b fr h
    | _ => none
  | .block id a, fr, h =>
    match evalS call n a fr h with
    | some (.exit i, fr', h') => if i = id then some (.normal, fr', h') else some (.exit i, fr', h')
    | r => r
  | .loop a, fr, h => iter (evalS call n a) n fr h
  | .exit id, fr, h => some (.exit id, fr, h)
  | .ret, fr, h => some (.ret, fr, h)
  | .reg l, fr, h => (evalOps call l fr h).map fun r => (.normal, r)
  | .dreg md l, fr, h => (evalDreg call md l fr h).map fun r => (.normal, r)
  | .range g ps a b, fr, h =>
    match opd fr g with
    | some (.func f first caps) =>
      match call (.it f) (first ++ [.yield h.next] ++ caps) (h.new ⟨[], .loop ⟨fr, ps, a, b, .ready, none⟩⟩) with
      | some (_, h') =>
        match h'.get h.next with
        | some ⟨_, .loop r⟩ =>
          match r.st, r.pend with
          | .busy, _ => none
          | _, none => some (.normal, fr, h'.put h.next ⟨[], .loop { r with st := .exhausted }⟩)
          | _, some none => some (.ret, fr, h'.put h.next ⟨[], .loop { r with st := .exhausted }⟩)
          | _, some (some i) => some (.exit i, fr, h'.put h.next ⟨[], .loop { r with st := .exhausted }⟩)
        | _ => none
      | none => none
    | _ => none

def resA (fr : Fr) (h : Hp) : List RV → Option (List AV)
  | [] => some []
  | r :: l =>
    match (match r with
      | .tmp t => fr.get t
      | .cell t agg => match fr.get t with
        | some (.ptr (some p)) => loadA h p agg
        | _ => none), resA fr h l with
    | some v, some vs => some (v :: vs)
    | _, _ => none

def oneOrTuple : List AV → AV
  | [v] => v
  | l => .tuple l

def frameOf : Nat → List AV → Fr
  | _, [] => .nil
  | i, v :: l => (frameOf (i + 1) l).set i (some v)

def setAll (fr : Fr) : List Nat → List AV → Fr
  | p :: ps, v :: vs => setAll (fr.set p (some v)) ps vs
  | _, _ => fr

/-- A round of a loop over a function. -/
def roundA (call : Callee) (n : Nat) (b : Nat) (args : List AV) (h : Hp) : Option (AV × Hp) :=
  match h.get b with
  | some ⟨_, .loop r⟩ =>
    if args.length = r.ps.length then
      match evalS call n r.assign (setAll r.fr r.ps args) h with
      | some (.normal, fr1, h1) =>
        match h1.get b with
        | some ⟨_, .loop r1⟩ =>
          match r1.st with
          | .ready =>
            match evalS call n r.body fr1 (h1.put b ⟨[], .loop { r1 with st := .busy }⟩) with
            | some (x, _, h2) =>
              match h2.get b with
              | some ⟨_, .loop r2⟩ =>
                match x with
                | .normal => some (.bool true, h2.put b ⟨[], .loop { r2 with st := .ready, pend := none }⟩)
                | .ret => some (.bool false, h2.put b ⟨[], .loop { r2 with st := .done, pend := some none }⟩)
                | .exit i => some (.bool false, h2.put b ⟨[], .loop { r2 with st := .done, pend := some (some i) }⟩)
              | _ => none
            | none => none
          | _ => none
        | _ => none
      | _ => none
    else none
  | _ => none

/-- A body that defers calls: what is deferred is gathered, the last first. -/
def evalB (call : Callee) (n : Nat) : SB → Fr → Hp → List (FuncId × List AV) → Option (X × Fr × Hp × List (FuncId × List AV))
  | .s a, fr, h, ds => (evalS call n a fr h).map fun r => (r.1, r.2.1, r.2.2, ds)
  | .seq a b, fr, h, ds =>
    match evalB call n a fr h ds with
    | some (.normal, fr', h', ds') => evalB call n b fr' h' ds'
    | r => r
  | .dfr f args, fr, h, ds =>
    match opd fr f, opds fr args with
    | some (.func g first caps), some l => some (.normal, fr, h, (g, first ++ l ++ caps) :: ds)
    | _, _ => none

/-- 'slices.Insert' at elements of one cell, as one step. What is put in lies in a block of its own. -/
def insertA (bytes : Nat) : List AV → Hp → Option (AV × Hp)
  | [.slice base n cap, .int .i64 i, .slice (some q) k (.known kc)], h =>
    if 0 ≤ i ∧ i ≤ (n : Int) ∧ 0 < k ∧ (n + k) * bytes ≤ maxLenB ∧ n + k ≤ 17592186044416 then
      match firstA h 1 n (.slice base n cap), h.cells q (k * 1), h.get q.1 with
      | some old, some more, some qb =>
        if more.all AV.one = true ∧ old.all AV.one = true ∧ qb.kind = .own then
          match cap with
          | .known c =>
            if c = 0 ∧ n = 0 then some (.slice (some (h.next, 0)) (n + k) (.more 1), h.new ⟨old.take i.toNat ++ more ++ old.drop i.toNat, .grown 1⟩) else none
          | .more e =>
            match base with
            | some a =>
              match h.get a.1 with
              | some blk => if blk.kind = .grown 1 ∧ e = 1 ∧ q.1 ≠ a.1 then some (.slice (some (h.next, 0)) (n + k) (.more 1), (h.kill a.1).new ⟨old.take i.toNat ++ more ++ old.drop i.toNat, .grown 1⟩) else none
              | none => none
            | none => none
        else none
      | _, _, _ => none
    else none
  | _, _ => none

/-- 'slices.overlaps': two slices in two blocks. -/
def overlapsA : List AV → Hp → Option (AV × Hp)
  | [.slice (some a) _ _, .slice (some b) _ _], h =>
    match h.get a.1, h.get b.1 with
    | some ka, some kb => if a.1 ≠ b.1 ∧ (ka.kind ≠ .ro ∧ ¬ ka.kind.hid = true) ∧ (kb.kind ≠ .ro ∧ ¬ kb.kind.hid = true) ∧ kb.cells ≠ [] then some (.bool false, h) else none
    | _, _ => none
  | _, _ => none

/-- 'math/bits.Add64'. -/
def add64A : List AV → Hp → Option (AV × Hp)
  | [.int _ x, .int _ y, .int _ c], h =>
    if c.toNat ≤ 1 then some (.tuple [.int .u64 (Int.ofNat ((x.toNat + y.toNat + c.toNat) % 18446744073709551616)), .int .u64 (Int.ofNat ((x.toNat + y.toNat + c.toNat) / 18446744073709551616))], h) else none
  | _, _ => none

/-- Two texts, which is the less one. -/
def cmpL : List UInt8 → List UInt8 → Int
  | [], [] => 0
  | [], _ :: _ => -1
  | _ :: _, [] => 1
  | a :: l, b :: m => if a = b then cmpL l m else if a < b then -1 else 1

def cmpStrA : List AV → Hp → Option (AV × Hp)
  | [.str a, .str b], h => some (.int .i64 (cmpL a.toList b.toList), h)
  | _, _ => none

/-- What the evaluator is told of a function: its text, or what it comes to in one step. -/
inductive Def where
  | text (f : SFn)
  | prim (c : List AV → Hp → Option (AV × Hp))
  | ext (c : List AV → Hp → Option (AV × Hp))      -- a function without a text
  | textB (f : SBFn)     -- a text that defers calls

/-- May it be called as a deferred one? -/
def dokF (F : FuncId → Option Def) (f : FuncId) : Bool :=
  match F f with
  | some (.text s) => s.body.plain
  | _ => false

/-- The deferred calls, one by one. -/
def runDs (dok : FuncId → Bool) (call : Callee) : List (FuncId × List AV) → Hp → Option Hp
  | [], h => some h
  | (f, args) :: l, h =>
    if dok f = true then
      match call (.fn f) args h with
      | some (_, h') => runDs dok call l h'
      | none => none
    else none

/-- A call of a function of which so much is told. -/
def runDef (dok : FuncId → Bool) (call : Callee) (n : Nat) (args : List AV) (h : Hp) : Def → Option (AV × Hp)
  | .prim c => c args h
  | .ext c => c args h
  | .text fn =>
    match evalS call n fn.body (frameOf 0 args) h with
    | some (.normal, fr, h') | some (.ret, fr, h') => (resA fr h' fn.res).map fun l => (oneOrTuple l, h')
    | _ => none
  | .textB fn =>
    match evalB call n fn.body (frameOf 0 args) h [] with
    | some (.normal, fr, h', ds) | some (.ret, fr, h', ds) =>
      match runDs dok call ds h' with
      | some h'' => (resA fr h'' fn.res).map fun l => (oneOrTuple l, h'')
      | none => none
    | _ => none

/-- A call, with so much fuel. -/
def evalT (F : FuncId → Option Def) : Nat → Callee
  | 0, _, _, _ => none
  | n + 1, .fn f, args, h =>
    match F f with
    | none => none
    | some d => runDef (dokF F) (evalT F n) n args h d
  | n + 1, .it f, args, h =>
    match F f with
    | none => none
    | some (.ext _) => none
    | some d => runDef (dokF F) (evalT F n) n args h d
  | n + 1, .yld b, args, h => roundA (evalT F n) n b args h

def evalFn (F : FuncId → Option Def) (n : Nat) (f : FuncId) (args : List AV) (h : Hp) : Option (AV × Hp) := evalT F n (.fn f) args h

theorem evalT_fn (F : FuncId → Option Def) (n : Nat) (f : FuncId) (args : List AV) (h : Hp) : evalT F n (.fn f) args h = evalFn F n f args h := rfl

end Go.Lite
