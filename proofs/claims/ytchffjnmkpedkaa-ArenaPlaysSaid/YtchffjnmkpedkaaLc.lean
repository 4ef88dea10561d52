/-
  LITE, part c: how the evaluator's values and memory stand to the model's. Own work of this session.
-/
import Derived.Test.YtchffjnmkpedkaaLb
import Derived.Laws.Sem
import Derived.Laws.World
import Derived.Laws.Cells
import Derived.Laws.Rows
set_option linter.unusedSectionVars false
set_option linter.unusedSimpArgs false
set_option linter.unusedVariables false
namespace Go.Lite
set_option linter.unusedSectionVars false
set_option linter.unusedSimpArgs false
set_option linter.unusedVariables false
open Go.RowKit

/-! ### The map -/
namespace T
variable {α : Type}
theorem get_node (l r : T α) (v : Option α) (n : Nat) : (T.node l v r).get n = match n with
    | 0 => v
    | m + 1 => cond (Nat.beq (m % 2) 0) (l.get (m / 2)) (r.get (m / 2)) := by cases n <;> rfl

theorem get_left (t : T α) (m : Nat) (h : Nat.beq (m % 2) 0 = true) : t.get (m + 1) = t.left.get (m / 2) := by
  cases t <;> simp [get, left, h]
theorem get_right (t : T α) (m : Nat) (h : Nat.beq (m % 2) 0 = false) : t.get (m + 1) = t.right.get (m / 2) := by
  cases t <;> simp [get, right, h]
theorem get_zero (t : T α) : t.get 0 = t.val := by cases t <;> rfl

theorem get_setF (f : Nat) : ∀ (t : T α) (n : Nat) (a : Option α) (k : Nat), n < f → (setF f t n a).get k = if k = n then a else t.get k := by
  induction f with
  | zero => intro t n a k h; omega
  | succ f ih =>
    intro t n a k h
    cases n with
    | zero =>
      simp only [setF]
      cases k with
      | zero => simp [get]
      | succ m =>
        simp only [get, if_neg (Nat.succ_ne_zero m)]
        cases hb : Nat.beq (m % 2) 0
        · rw [get_right t m hb]; rfl
        · rw [get_left t m hb]; rfl
    | succ n =>
      simp only [setF]
      cases hn : Nat.beq (n % 2) 0
      · simp only [cond_false]
        cases k with
        | zero => simp [get, get_zero]
        | succ m =>
          simp only [get]
          cases hb : Nat.beq (m % 2) 0
          · simp only [cond_false]
            rw [ih t.right (n / 2) a (m / 2) (by omega), get_right t m hb]
            have h1 : ¬ n % 2 = 0 := by intro e; rw [e] at hn; simp at hn
            have h2 : ¬ m % 2 = 0 := by intro e; rw [e] at hb; simp at hb
            by_cases e : m = n
            · subst e; simp
            · rw [if_neg (by omega), if_neg (by omega)]
          · simp only [cond_true]
            rw [get_left t m hb]
            have h2 : m % 2 = 0 := Nat.eq_of_beq_eq_true hb
            have h1 : ¬ n % 2 = 0 := by intro e; rw [e] at hn; simp at hn
            rw [if_neg (by omega)]
      · simp only [cond_true]
        have h1 : n % 2 = 0 := Nat.eq_of_beq_eq_true hn
        cases k with
        | zero => simp [get, get_zero]
        | succ m =>
          simp only [get]
          cases hb : Nat.beq (m % 2) 0
          · simp only [cond_false]
            rw [get_right t m hb]
            have h2 : ¬ m % 2 = 0 := by intro e; rw [e] at hb; simp at hb
            rw [if_neg (by omega)]
          · simp only [cond_true]
            have h2 : m % 2 = 0 := Nat.eq_of_beq_eq_true hb
            rw [ih t.left (n / 2) a (m / 2) (by omega), get_left t m hb]
            by_cases e : m = n
            · subst e; simp
            · rw [if_neg (by omega), if_neg (by omega)]

theorem get_set (t : T α) (n k : Nat) (a : Option α) : (t.set n a).get k = if k = n then a else t.get k :=
  get_setF (n + 1) t n a k (by omega)
theorem get_set_same (t : T α) (n : Nat) (a : Option α) : (t.set n a).get n = a := by simp [get_set]
theorem get_set_ne (t : T α) {n k : Nat} (a : Option α) (h : k ≠ n) : (t.set n a).get k = t.get k := by simp [get_set, h]
@[simp] theorem get_nil (n : Nat) : (T.nil : T α).get n = none := rfl
end T

theorem Hp.get_put (h : Hp) (b c : Nat) (k : Blk) : (h.put b k).get c = if c = b then some k else h.get c := T.get_set _ _ _ _
theorem Hp.get_kill (h : Hp) (b c : Nat) : (h.kill b).get c = if c = b then none else h.get c := T.get_set _ _ _ _
theorem Hp.get_new (h : Hp) (c : Nat) (k : Blk) : (h.new k).get c = if c = h.next then some k else h.get c := T.get_set _ _ _ _
@[simp] theorem Hp.next_put (h : Hp) (b : Nat) (k : Blk) : (h.put b k).next = h.next := rfl
@[simp] theorem Hp.next_kill (h : Hp) (b : Nat) : (h.kill b).next = h.next := rfl
@[simp] theorem Hp.next_new (h : Hp) (k : Blk) : (h.new k).next = h.next + 1 := rfl

/-! ### Equality of values -/
mutual
theorem AV.eq_of_beq : ∀ (a b : AV), AV.beq a b = true → a = b
  | .int k n, b, h => by cases b <;> simp_all [AV.beq]
  | .bool n, b, h => by cases b <;> simp_all [AV.beq]
  | .str s, b, h => by cases b <;> simp_all [AV.beq]
  | .ptr a, b, h => by cases b <;> simp_all [AV.beq]
  | .slice a n c, b, h => by cases b <;> simp_all [AV.beq]
  | .func f x y, b, h => by
    cases b with
    | func g u v =>
      simp only [AV.beq, Bool.and_eq_true, beq_iff_eq] at h
      rw [h.1.1, AV.eq_of_beqs x u h.1.2, AV.eq_of_beqs y v h.2]
    | _ => simp [AV.beq] at h
  | .nilFunc, b, h => by cases b <;> simp_all [AV.beq]
  | .map x, b, h => by cases b <;> simp_all [AV.beq]
  | .yield x, b, h => by cases b <;> simp_all [AV.beq]
  | .agg x, b, h => by
    cases b with
    | agg u => simp only [AV.beq] at h; rw [AV.eq_of_beqs x u h]
    | _ => simp [AV.beq] at h
  | .tuple x, b, h => by
    cases b with
    | tuple u => simp only [AV.beq] at h; rw [AV.eq_of_beqs x u h]
    | _ => simp [AV.beq] at h
  | .junk, b, h => by cases b <;> simp_all [AV.beq]
theorem AV.eq_of_beqs : ∀ (a b : List AV), AV.beqs a b = true → a = b
  | [], b, h => by cases b <;> simp_all [AV.beqs]
  | x :: l, b, h => by
    cases b with
    | nil => simp [AV.beqs] at h
    | cons y m =>
      simp only [AV.beqs, Bool.and_eq_true] at h
      rw [AV.eq_of_beq x y h.1, AV.eq_of_beqs l m h.2]
end

/-! ### The relation -/
/-- Where a block lies: the model's block, from which cell on, of how many cells. -/
structure Loc where
  row : Nat
  base : Nat
  tot : Nat

abbrev Ren := Nat → Option Loc

mutual
inductive Rel (ρ : Ren) : AV → Value → Prop
  | int (k : IntKind) (n : Int) : Rel ρ (.int k n) (.int k n)
  | bool (b : Bool) : Rel ρ (.bool b) (.bool b)
  | str (s : ByteArray) : Rel ρ (.str s) (.string s)
  | ptrNil : Rel ρ (.ptr none) (.pointer none)
  | ptr (b o : Nat) (l : Loc) : ρ b = some l → Rel ρ (.ptr (some (b, o))) (.pointer (some ⟨l.row, l.base + o, none⟩))
  | sliceNil : Rel ρ (.slice none 0 (.known 0)) (.slice none 0 0)
  | slice (b o n c off : Nat) (l : Loc) : ρ b = some l → (c = 0 ∨ off = l.base + o) → n ≤ c → Rel ρ (.slice (some (b, o)) n (.known c)) (.slice (some ⟨l.row, off, none⟩) n c)
  | sliceG (b o n e c off : Nat) (l : Loc) : ρ b = some l → (n = 0 ∨ off = l.base + o) → n ≤ c → off + c * e ≤ l.tot →
      Rel ρ (.slice (some (b, o)) n (.more e)) (.slice (some ⟨l.row, off, none⟩) n c)
  | func (f : FuncId) (a b : List AV) (a' b' : Array Value) : RelL ρ a a'.toList → RelL ρ b b'.toList → Rel ρ (.func f a b) (.func (.func f) a' b')
  | nilFunc : Rel ρ .nilFunc .nilFunc
  | mapNil : Rel ρ (.map none) (.map none)
  | map (b : Nat) (l : Loc) : ρ b = some l → Rel ρ (.map (some b)) (.map (some l.row))
  | yield (b : Nat) (l : Loc) : ρ b = some l → Rel ρ (.yield b) (.func (.yield l.row) #[] #[])
  | agg (l : List AV) (c : Array Value) : RelL ρ l c.toList → Rel ρ (.agg l) (.agg c)
  | tuple (l : List AV) (c : Array Value) : RelL ρ l c.toList → Rel ρ (.tuple l) (.tuple c)
  | junk (v : Value) : Rel ρ .junk v
inductive RelL (ρ : Ren) : List AV → List Value → Prop
  | nil : RelL ρ [] []
  | cons (a : AV) (v : Value) (l : List AV) (m : List Value) : Rel ρ a v → RelL ρ l m → RelL ρ (a :: l) (v :: m)
end

def Ren.le (ρ ρ' : Ren) : Prop := ∀ b l, ρ b = some l → ρ' b = some l
theorem Ren.le_refl (ρ : Ren) : ρ.le ρ := fun _ _ h => h
theorem Ren.le_trans {a b c : Ren} (h : a.le b) (k : b.le c) : a.le c := fun _ _ e => k _ _ (h _ _ e)

mutual
theorem Rel.mono {ρ ρ' : Ren} (h : ρ.le ρ') : ∀ {a : AV} {v : Value}, Rel ρ a v → Rel ρ' a v
  | _, _, .int k n => .int k n
  | _, _, .bool b => .bool b
  | _, _, .str s => .str s
  | _, _, .ptrNil => .ptrNil
  | _, _, .ptr b o l e => .ptr b o l (h _ _ e)
  | _, _, .sliceNil => .sliceNil
  | _, _, .slice b o n c off l e e2 e3 => .slice b o n c off l (h _ _ e) e2 e3
  | _, _, .sliceG b o n x c off l e e2 e3 e4 => .sliceG b o n x c off l (h _ _ e) e2 e3 e4
  | _, _, .func f a b a' b' e1 e2 => .func f a b a' b' (RelL.mono h e1) (RelL.mono h e2)
  | _, _, .nilFunc => .nilFunc
  | _, _, .mapNil => .mapNil
  | _, _, .map b l e => .map b l (h _ _ e)
  | _, _, .yield b l e => .yield b l (h _ _ e)
  | _, _, .agg l c e => .agg l c (RelL.mono h e)
  | _, _, .tuple l c e => .tuple l c (RelL.mono h e)
  | _, _, .junk v => .junk v
theorem RelL.mono {ρ ρ' : Ren} (h : ρ.le ρ') : ∀ {a : List AV} {v : List Value}, RelL ρ a v → RelL ρ' a v
  | _, _, .nil => .nil
  | _, _, .cons a v l m e1 e2 => .cons a v l m (Rel.mono h e1) (RelL.mono h e2)
end

theorem RelL.length {ρ : Ren} : ∀ {l : List AV} {m : List Value}, RelL ρ l m → l.length = m.length
  | _, _, .nil => rfl
  | _, _, .cons _ _ _ _ _ h => by simp [RelL.length h]

theorem RelL.get {ρ : Ren} : ∀ {l : List AV} {m : List Value}, RelL ρ l m → ∀ {i : Nat} {v : AV}, l[i]? = some v → ∃ u, m[i]? = some u ∧ Rel ρ v u
  | _, _, .nil, i, v, h => by simp at h
  | _, _, .cons a u l m e1 e2, 0, v, h => by simp at h; subst h; exact ⟨u, by simp, e1⟩
  | _, _, .cons a u l m e1 e2, i + 1, v, h => by simpa using RelL.get e2 (by simpa using h)

theorem RelL.append {ρ : Ren} : ∀ {l : List AV} {m : List Value}, RelL ρ l m → ∀ {l' : List AV} {m' : List Value}, RelL ρ l' m' → RelL ρ (l ++ l') (m ++ m')
  | _, _, .nil, _, _, h => h
  | _, _, .cons a u l m e1 e2, _, _, h => .cons _ _ _ _ e1 (RelL.append e2 h)

theorem RelL.of_get {ρ : Ren} : ∀ {l : List AV} {m : List Value}, l.length = m.length → (∀ (i : Nat) (v : AV) (u : Value), l[i]? = some v → m[i]? = some u → Rel ρ v u) → RelL ρ l m
  | [], [], _, _ => .nil
  | [], _ :: _, h, _ => by simp at h
  | _ :: _, [], h, _ => by simp at h
  | a :: l, u :: m, h, k => .cons _ _ _ _ (k 0 a u (by simp) (by simp)) (RelL.of_get (by simpa using h) fun i v w e1 e2 => k (i + 1) v w (by simpa using e1) (by simpa using e2))

theorem RelL.take {ρ : Ren} : ∀ {l : List AV} {m : List Value}, RelL ρ l m → ∀ n, RelL ρ (l.take n) (m.take n)
  | _, _, .nil, n => by simpa using .nil
  | _, _, .cons a u l m e1 e2, 0 => by simpa using .nil
  | _, _, .cons a u l m e1 e2, n + 1 => by simpa using .cons _ _ _ _ e1 (RelL.take e2 n)
theorem RelL.drop {ρ : Ren} : ∀ {l : List AV} {m : List Value}, RelL ρ l m → ∀ n, RelL ρ (l.drop n) (m.drop n)
  | _, _, .nil, n => by simpa using .nil
  | _, _, .cons a u l m e1 e2, 0 => by simpa using .cons _ _ _ _ e1 e2
  | _, _, .cons a u l m e1 e2, n + 1 => by simpa using RelL.drop e2 n
theorem RelL.set {ρ : Ren} : ∀ {l : List AV} {m : List Value}, RelL ρ l m → ∀ n {v : AV} {u : Value}, Rel ρ v u → RelL ρ (l.set n v) (m.set n u)
  | _, _, .nil, n, _, _, _ => by simpa using .nil
  | _, _, .cons a u l m e1 e2, 0, _, _, h => by simpa using .cons _ _ _ _ h e2
  | _, _, .cons a u l m e1 e2, n + 1, _, _, h => by simpa using .cons _ _ _ _ e1 (RelL.set e2 n h)
theorem RelL.flatten_replicate {ρ : Ren} {l : List AV} {m : List Value} (h : RelL ρ l m) : ∀ n, RelL ρ (List.replicate n l).flatten (List.replicate n m).flatten
  | 0 => by simpa using .nil
  | n + 1 => by simpa [List.replicate_succ] using RelL.append h (RelL.flatten_replicate h n)

theorem Rel.cells {ρ : Ren} {a : AV} {v : Value} (h : Rel ρ a v) (hj : a ≠ .junk) : RelL ρ a.cells v.cells.toList := by
  cases h <;> first
    | exact .cons _ _ _ _ (by constructor <;> assumption) .nil
    | (exact ‹RelL ρ _ _›)
    | exact absurd rfl hj

theorem AV.noJunk {a : AV} (h : a.cells.all AV.one = true) : a ≠ .junk := by
  intro e; subst e; simp [AV.cells, AV.one] at h

theorem Rel.oneCell {ρ : Ren} {a : AV} {v : Value} (h : Rel ρ a v) (h1 : a.one = true) : v.oneCell' = true := by
  cases h <;> simp_all [AV.one, Value.oneCell']

/-- A block of cells of the evaluator's, and the model's. -/
def CellRel (ρ : Ren) (w : World) (k : Blk) (l : Loc) : Prop :=
  ∃ c e z, w.heap[l.row]? = some (.cells c e z) ∧ c.size = l.tot ∧ (k.kind ≠ .ro → z = (0, 0)) ∧
    ∀ i v, k.cells[i]? = some v → ∃ u, c[l.base + i]? = some u ∧ Rel ρ v u

/-- A map's entries, one behind the other. -/
def entsL : List MapEntry → List Value
  | [] => []
  | e :: l => e.key :: e.val :: entsL l

def MapRel (ρ : Ren) (w : World) (cells : List AV) (clk : Nat) (bs : List Nat) (l : Loc) : Prop :=
  ∃ es, w.heap[l.row]? = some (.map es clk) ∧ es.toList.map (·.born) = bs ∧ RelL ρ cells (entsL es.toList)

def IterRel (ρ : Ren) (w : World) (m : Option Nat) (since : Nat) (seen : List Nat) (last : Nat) (l : Loc) : Prop :=
  ∃ m', w.heap[l.row]? = some (.mapIter m' since seen.toArray last) ∧ l.base = 0 ∧ (m = none → m' = none) ∧ ∀ b, m = some b → ∃ lm, ρ b = some lm ∧ m' = some lm.row

/-- How the code of a round stands to the model's: told by whoever knows the program. -/
class Ctx where
  low : Nat → Code → S → Prop

variable [Ctx]

def jumpOf : Option Nat → Code
  | none => .ret
  | some id => .exit id

def LoopRel (ρ : Ren) (w : World) (r : LoopRec) (l : Loc) : Prop :=
  ∃ (rec : Loop) (nt : Nat), w.heap[l.row]? = some (.loop rec) ∧ rec.state = r.st ∧ rec.pending = r.pend.map jumpOf ∧ rec.params.toList = r.ps ∧ (∀ t ∈ r.ps, t < nt) ∧ nt ≤ rec.tmps.size ∧
    (∀ t v, r.fr.get t = some v → ∃ u, rec.tmps[t]? = some u ∧ Rel ρ v u) ∧ Ctx.low nt rec.assign r.assign ∧ Ctx.low nt rec.body r.body ∧ r.assign.plain = true ∧ r.body.plain = true

/-- A block of the evaluator's, and the model's. -/
def BlkRel (ρ : Ren) (w : World) (k : Blk) (l : Loc) : Prop := (¬ k.kind.hid = true → CellRel ρ w k l) ∧ (∀ c bs, k.kind = .map c bs → MapRel ρ w k.cells c bs l) ∧
  (∀ m s sn la, k.kind = .iter m s sn la → IterRel ρ w m s sn la l) ∧ (∀ r, k.kind = .loop r → LoopRel ρ w r l)

structure HRel (ρ : Ren) (h : Hp) (w : World) : Prop where
  blk : ∀ b k l, h.get b = some k → ρ b = some l → BlkRel ρ w k l
  one : ∀ b b' k k' l l', h.get b = some k → h.get b' = some k' → k.kind ≠ .ro → ρ b = some l → ρ b' = some l' → l.row = l'.row → b = b'
  dom : ∀ b l, ρ b = some l → b < h.next ∧ l.row < w.heap.size

/-- The model's block is one that may be written. -/
def Owned (ρ : Ren) (h : Hp) (r : Nat) : Prop := ∃ b k l, h.get b = some k ∧ k.kind ≠ .ro ∧ ρ b = some l ∧ l.row = r

/-- From one memory to a later one. -/
structure Step (ρ : Ren) (h : Hp) (w : World) (ρ' : Ren) (h' : Hp) (w' : World) : Prop where
  le : ρ.le ρ'
  new : ∀ b l, ρ' b = some l → ρ b = none → h.next ≤ b
  next : h.next ≤ h'.next
  os : w'.os = w.os
  tape : w'.tape = w.tape
  output : w'.output = w.output
  size : w.heap.size ≤ w'.heap.size
  rows : ∀ r, r < w.heap.size → ¬ Owned ρ h r → w'.heap[r]? = w.heap[r]?
  own : ∀ r, r < w.heap.size → Owned ρ' h' r → Owned ρ h r
  rest : ∀ b, b < h.next → ρ b = none → h'.get b = h.get b
  ro : ∀ b k, b < h.next → h'.get b = some k → k.kind = .ro → h.get b = some k

theorem Step.refl (ρ : Ren) (h : Hp) (w : World) : Step ρ h w ρ h w :=
  ⟨Ren.le_refl _, fun b l e e' => (by rw [e] at e'; cases e'), Nat.le_refl _, rfl, rfl, rfl, Nat.le_refl _, fun _ _ _ => rfl, fun _ _ o => o, fun _ _ _ => rfl, fun _ _ _ e _ => e⟩

theorem Step.trans {ρ ρ1 ρ2 : Ren} {h h1 h2 : Hp} {w w1 w2 : World} (a : Step ρ h w ρ1 h1 w1) (b : Step ρ1 h1 w1 ρ2 h2 w2) : Step ρ h w ρ2 h2 w2 := by
  refine ⟨Ren.le_trans a.le b.le, ?_, Nat.le_trans a.next b.next, b.os.trans a.os, b.tape.trans a.tape, b.output.trans a.output, Nat.le_trans a.size b.size, ?_, ?_, ?_, ?_⟩
  · intro x l e e'
    cases h1x : ρ1 x with
    | none => exact Nat.le_trans a.next (b.new x l e h1x)
    | some l1 => exact a.new x l1 h1x e'
  · intro r hr ho
    rw [b.rows r (Nat.lt_of_lt_of_le hr a.size) (fun h => ho (a.own r hr h)), a.rows r hr ho]
  · intro r hr ho
    exact a.own r hr (b.own r (Nat.lt_of_lt_of_le hr a.size) ho)
  · intro x hx e
    have e1 : ρ1 x = none := by
      cases h1x : ρ1 x with
      | none => rfl
      | some l => have := a.new x l h1x e; omega
    rw [b.rest x (Nat.lt_of_lt_of_le hx a.next) e1, a.rest x hx e]
  · intro x k hx e e2
    exact a.ro x k hx (b.ro x k (Nat.lt_of_lt_of_le hx a.next) e e2) e2

/-- A draw. -/
theorem Step.drew {ρ : Ren} {h : Hp} {w : World} : Step ρ h w ρ h w.drew :=
  ⟨Ren.le_refl _, fun b l e e' => (by rw [e] at e'; cases e'), Nat.le_refl _, rfl, rfl, rfl, Nat.le_refl _, fun _ _ _ => rfl, fun _ _ o => o, fun _ _ _ => rfl, fun _ _ _ e _ => e⟩
theorem HRel.drew {ρ : Ren} {h : Hp} {w : World} (H : HRel ρ h w) : HRel ρ h w.drew := ⟨H.blk, H.one, H.dom⟩

/-- A block of cells. -/
theorem BlkRel.flat {ρ : Ren} {w : World} {k : Blk} {l : Loc} (hk : k.kind.hid = false) (h : CellRel ρ w k l) : BlkRel ρ w k l :=
  ⟨fun _ => h, fun c bs e => (by rw [e] at hk; cases hk), fun m s sn la e => (by rw [e] at hk; cases hk), fun r e => (by rw [e] at hk; cases hk)⟩

theorem BlkRel.mono {ρ ρ' : Ren} {w : World} {k : Blk} {l : Loc} (h : ρ.le ρ') (H : BlkRel ρ w k l) : BlkRel ρ' w k l :=
  ⟨fun hk => let ⟨c, e, z, h1, h2, h3, h4⟩ := H.1 hk
    ⟨c, e, z, h1, h2, h3, fun i v hv => let ⟨u, hu, r⟩ := h4 i v hv; ⟨u, hu, Rel.mono h r⟩⟩,
   fun c bs hk => let ⟨es, h1, h2, h3⟩ := H.2.1 c bs hk; ⟨es, h1, h2, RelL.mono h h3⟩,
   fun m s sn la hk => let ⟨m', h1, h2, h3, h4⟩ := H.2.2.1 m s sn la hk; ⟨m', h1, h2, h3, fun b e => let ⟨lm, q1, q2⟩ := h4 b e; ⟨lm, h _ _ q1, q2⟩⟩,
   fun r hk => let ⟨rec, nt, h1, h2, h3, h4, h5, h6, h7, h8⟩ := H.2.2.2 r hk; ⟨rec, nt, h1, h2, h3, h4, h5, h6, fun t v e => let ⟨u, hu, q⟩ := h7 t v e; ⟨u, hu, Rel.mono h q⟩, h8⟩⟩

end Go.Lite
