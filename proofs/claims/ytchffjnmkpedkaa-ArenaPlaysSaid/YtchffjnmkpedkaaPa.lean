/-
  PURE, part a: nodes that are shared: what an arena is, and that the order in which what is asked for no more is given back does not matter. No program in sight. Own work of this session.
-/
import Derived.Test.YtchffjnmkpedkaaLv
set_option linter.unusedSectionVars false
set_option linter.unusedSimpArgs false
set_option linter.unusedVariables false
namespace Go.Lite.Arena
set_option linter.unusedSectionVars false
set_option linter.unusedSimpArgs false
set_option linter.unusedVariables false

/-- A node: whether it is a leaf, its eight parts, its eight entries. -/
structure Nd where
  leaf : Bool
  kids : List Int
  vals : List (Int × Bool)
  hk : kids.length = 8
  hv : vals.length = 8
  deriving DecidableEq

/-- The nodes by their places; with each, how often it is asked for. The place i is the node i + 1. -/
abbrev St := List (Nd × Nat)

/-- The place of a node's number. -/
def at? (S : St) (id : Int) : Option (Nd × Nat) := if 1 ≤ id then S[(id - 1).toNat]? else none
def rf (S : St) (id : Int) : Nat := ((at? S id).map (·.2)).getD 0
def kidsOf (S : St) (id : Int) : List Int := ((at? S id).map (·.1.kids)).getD []
/-- How often a node is asked for, changed. -/
def upd (g : Nat → Nat) (S : St) (id : Int) : St := if 1 ≤ id then S.modify (id - 1).toNat fun x => (x.1, g x.2) else S
def dec (S : St) (id : Int) : St := upd (· - 1) S id
def inc (S : St) (id : Int) : St := upd (· + 1) S id
def total (S : St) : Nat := (S.map (·.2)).sum

theorem at_upd (g : Nat → Nat) (S : St) (k x : Int) : at? (upd g S k) x = if x = k then (at? S x).map fun y => (y.1, g y.2) else at? S x := by
  unfold at? upd
  by_cases hx : 1 ≤ x
  · by_cases hk : 1 ≤ k
    · rw [if_pos hx, if_pos hk, if_pos hx, List.getElem?_modify]
      by_cases e : x = k
      · subst e; simp
      · rw [if_neg e]
        have : ¬ (k - 1).toNat = (x - 1).toNat := by omega
        cases S[(x - 1).toNat]? with
        | none => rfl
        | some y => exact congrArg some (if_neg this)
    · have e : ¬ x = k := by omega
      simp [hx, hk, e]
  · by_cases e : x = k
    · subst e; simp [hx]
    · simp [hx, e]

theorem rf_upd (g : Nat → Nat) (S : St) (k x : Int) (h : rf S x ≠ 0 ∨ g 0 = 0) : rf (upd g S k) x = if x = k then g (rf S x) else rf S x := by
  unfold rf at *
  rw [at_upd]
  split
  · cases hq : at? S x with
    | none => rw [hq] at h; simp at h; simp [h]
    | some y => simp
  · rfl

theorem rf_dec (S : St) (k x : Int) : rf (dec S k) x = if x = k then rf S x - 1 else rf S x := rf_upd _ S k x (.inr rfl)

theorem kids_upd (g : Nat → Nat) (S : St) (k x : Int) : kidsOf (upd g S k) x = kidsOf S x := by
  unfold kidsOf
  rw [at_upd]
  split
  · cases at? S x <;> simp
  · rfl

theorem length_upd (g : Nat → Nat) (S : St) (k : Int) : (upd g S k).length = S.length := by unfold upd; split <;> simp

theorem dec_comm (S : St) (a b : Int) : dec (dec S a) b = dec (dec S b) a := by
  unfold dec upd
  split <;> split <;> try rfl
  apply List.ext_getElem?
  intro i
  rw [List.getElem?_modify, List.getElem?_modify, List.getElem?_modify, List.getElem?_modify]
  cases S[i]? with
  | none => rfl
  | some x => simp only [Option.map_some]; split <;> split <;> rfl

theorem sum_modify : ∀ (l : List (Nd × Nat)) (i : Nat) (n : Nd) (r : Nat), l[i]? = some (n, r + 1) → (((l.modify i fun x => (x.1, x.2 - 1)).map (·.2)).sum) + 1 = (l.map (·.2)).sum
  | [], i, n, r, h => by simp at h
  | a :: l, 0, n, r, h => by simp at h; subst h; simp [List.modify_cons]; omega
  | a :: l, i + 1, n, r, h => by
    simp at h
    have := sum_modify l i n r h
    simp [List.modify_cons]; omega

theorem total_dec (S : St) (k : Int) (h : rf S k ≠ 0) : total (dec S k) + 1 = total S := by
  unfold rf at? at h
  unfold total dec upd
  split at h
  · rename_i hk
    rw [if_pos hk]
    cases hq : S[(k - 1).toNat]? with
    | none => rw [hq] at h; exact absurd rfl h
    | some y =>
      obtain ⟨n, r⟩ := y
      rw [hq] at h
      replace h : r ≠ 0 := h
      exact sum_modify S _ n (r - 1) (by rw [hq, show r - 1 + 1 = r by omega])
  · simp at h

/-- What is to be asked for once less, all of it, one after another: a node that nobody asks for any more asks for its parts no more. -/
inductive Runs : List Int → St → St → Prop
  | nil (S : St) : Runs [] S S
  | dead (k : Int) (p : List Int) (S T : St) : rf S k = 0 → Runs p S T → Runs (k :: p) S T
  | more (k : Int) (p : List Int) (S T : St) : 1 < rf S k → Runs p (dec S k) T → Runs (k :: p) S T
  | last (k : Int) (p : List Int) (S T : St) : rf S k = 1 → Runs (kidsOf S k ++ p) (dec S k) T → Runs (k :: p) S T

theorem Runs.det : ∀ {p : List Int} {S T : St}, Runs p S T → ∀ {U : St}, Runs p S U → T = U := by
  intro p S T h
  induction h with
  | nil S => intro U k; cases k; rfl
  | dead k p S T h1 h2 ih =>
    intro U q
    cases q with
    | dead _ _ _ _ q1 q2 => exact ih q2
    | more _ _ _ _ q1 q2 => omega
    | last _ _ _ _ q1 q2 => omega
  | more k p S T h1 h2 ih =>
    intro U q
    cases q with
    | dead _ _ _ _ q1 q2 => omega
    | more _ _ _ _ q1 q2 => exact ih q2
    | last _ _ _ _ q1 q2 => omega
  | last k p S T h1 h2 ih =>
    intro U q
    cases q with
    | dead _ _ _ _ q1 q2 => omega
    | more _ _ _ _ q1 q2 => omega
    | last _ _ _ _ q1 q2 => exact ih q2

theorem Runs.ex : ∀ (n : Nat) (p : List Int) (S : St), total S ≤ n → ∃ T, Runs p S T := by
  intro n
  induction n with
  | zero =>
    intro p S h
    induction p with
    | nil => exact ⟨S, .nil S⟩
    | cons k p ih =>
      obtain ⟨T, hT⟩ := ih
      by_cases h0 : rf S k = 0
      · exact ⟨T, .dead k p S T h0 hT⟩
      · have := total_dec S k h0; omega
  | succ n ih =>
    intro p S h
    induction p with
    | nil => exact ⟨S, .nil S⟩
    | cons k p ih2 =>
      obtain ⟨T, hT⟩ := ih2
      by_cases h0 : rf S k = 0
      · exact ⟨T, .dead k p S T h0 hT⟩
      · have := total_dec S k h0
        by_cases h1 : rf S k = 1
        · obtain ⟨U, hU⟩ := ih (kidsOf S k ++ p) (dec S k) (by omega)
          exact ⟨U, .last k p S U h1 hU⟩
        · obtain ⟨U, hU⟩ := ih p (dec S k) (by omega)
          exact ⟨U, .more k p S U (by omega) hU⟩

theorem Runs.append {p : List Int} {S T : St} (h : Runs p S T) : ∀ {q : List Int} {U : St}, Runs q T U → Runs (p ++ q) S U := by
  induction h with
  | nil S => intro q U k; exact k
  | dead k p S T h1 h2 ih => intro q U r; exact .dead k _ S U h1 (ih r)
  | more k p S T h1 h2 ih => intro q U r; exact .more k _ S U h1 (ih r)
  | last k p S T h1 h2 ih => intro q U r; exact .last k _ S U h1 (by have := ih r; rw [List.append_assoc] at this; exact this)

/-- The order does not matter. -/
theorem Runs.perm : ∀ (n : Nat) (S : St), total S ≤ n → ∀ {p q : List Int}, p.Perm q → ∀ {T : St}, Runs p S T → Runs q S T := by
  intro n
  induction n with
  | zero =>
    intro S hS p q hp
    have all : ∀ (l : List Int), Runs l S S := by
      intro l
      induction l with
      | nil => exact .nil S
      | cons k l ih =>
        by_cases h0 : rf S k = 0
        · exact .dead k l S S h0 ih
        · have := total_dec S k h0; omega
    intro T h
    rw [h.det (all p)]
    exact all q
  | succ n ih =>
    intro S hS p q hp
    have swap : ∀ (a b : Int) (l : List Int) (T : St), Runs (b :: a :: l) S T → Runs (a :: b :: l) S T := by
      intro a b l T h
      by_cases hab : a = b
      · subst hab; exact h
      by_cases ha : rf S a = 0
      · refine .dead a _ S T ha ?_
        by_cases hb : rf S b = 0
        · cases h with
          | dead _ _ _ _ _ q2 =>
            cases q2 with
            | dead _ _ _ _ _ q3 => exact .dead b _ S T hb q3
            | more _ _ _ _ q3 _ => omega
            | last _ _ _ _ q3 _ => omega
          | more _ _ _ _ q1 _ => omega
          | last _ _ _ _ q1 _ => omega
        · have hd := total_dec S b hb
          have ha' : rf (dec S b) a = 0 := by rw [rf_dec, if_neg hab]; exact ha
          cases h with
          | dead _ _ _ _ q1 _ => omega
          | more _ _ _ _ q1 q2 =>
            cases q2 with
            | dead _ _ _ _ _ q3 => exact .more b _ S T q1 q3
            | more _ _ _ _ q3 _ => omega
            | last _ _ _ _ q3 _ => omega
          | last _ _ _ _ q1 q2 =>
            have := ih (dec S b) (by omega) (List.perm_middle (a := a) (l₁ := kidsOf S b) (l₂ := l)) q2
            cases this with
            | dead _ _ _ _ _ q3 => exact .last b _ S T q1 q3
            | more _ _ _ _ q3 _ => omega
            | last _ _ _ _ q3 _ => omega
      · have hda := total_dec S a ha
        by_cases hb : rf S b = 0
        · cases h with
          | dead _ _ _ _ _ q2 =>
            have hb' : rf (dec S a) b = 0 := by rw [rf_dec, if_neg (Ne.symm hab)]; exact hb
            cases q2 with
            | dead _ _ _ _ q3 _ => omega
            | more _ _ _ _ q3 q4 => exact .more a _ S T q3 (.dead b _ _ T hb' q4)
            | last _ _ _ _ q3 q4 =>
              exact .last a _ S T q3 (ih (dec S a) (by omega) (List.perm_middle (a := b) (l₁ := kidsOf S a) (l₂ := l)).symm (.dead b _ _ T hb' q4))
          | more _ _ _ _ q1 _ => omega
          | last _ _ _ _ q1 _ => omega
        · have hdb := total_dec S b hb
          have rab : rf (dec S a) b = rf S b := by rw [rf_dec, if_neg (Ne.symm hab)]
          have rba : rf (dec S b) a = rf S a := by rw [rf_dec, if_neg hab]
          have kab : kidsOf (dec S a) b = kidsOf S b := kids_upd _ S a b
          have kba : kidsOf (dec S b) a = kidsOf S a := kids_upd _ S b a
          have hda2 := total_dec (dec S a) b (by rw [rab]; exact hb)
          -- first b, then a, out of the memory behind b
          have step : ∃ p', Runs p' (dec (dec S b) a) T ∧ p'.Perm ((if rf S a = 1 then kidsOf S a else []) ++ ((if rf S b = 1 then kidsOf S b else []) ++ l)) := by
            cases h with
            | dead _ _ _ _ q1 _ => exact absurd q1 hb
            | more _ _ _ _ q1 q2 =>
              have e1 : rf S b ≠ 1 := by omega
              simp only [e1, if_false, List.nil_append]
              cases q2 with
              | dead _ _ _ _ q3 _ => omega
              | more _ _ _ _ q3 q4 => exact ⟨l, q4, by rw [if_neg (by omega)]; exact List.Perm.refl _⟩
              | last _ _ _ _ q3 q4 => exact ⟨_, q4, by rw [if_pos (by omega), kba]⟩
            | last _ _ _ _ q1 q2 =>
              simp only [q1, if_true]
              have q2' := ih (dec S b) (by omega) (List.perm_middle (a := a) (l₁ := kidsOf S b) (l₂ := l)) q2
              cases q2' with
              | dead _ _ _ _ q3 _ => omega
              | more _ _ _ _ q3 q4 => exact ⟨_, q4, by rw [if_neg (by omega)]; exact List.Perm.refl _⟩
              | last _ _ _ _ q3 q4 => exact ⟨_, q4, by rw [if_pos (by omega), kba]⟩
          obtain ⟨p', hp1, hp2⟩ := step
          rw [dec_comm] at hp1
          have tot : total (dec (dec S a) b) ≤ n := by omega
          by_cases a1 : rf S a = 1
          · simp only [a1, if_true] at hp2
            refine .last a _ S T a1 (ih (dec S a) (by omega) (List.perm_middle (a := b) (l₁ := kidsOf S a) (l₂ := l)).symm ?_)
            by_cases b1 : rf S b = 1
            · simp only [b1, if_true] at hp2
              refine .last b _ _ T (by omega) (ih _ tot ?_ hp1)
              rw [kab]
              exact hp2.trans (List.perm_append_comm_assoc _ _ _)
            · simp only [b1, if_false, List.nil_append] at hp2
              exact .more b _ _ T (by omega) (ih _ tot hp2 hp1)
          · simp only [a1, if_false, List.nil_append] at hp2
            refine .more a _ S T (by omega) ?_
            by_cases b1 : rf S b = 1
            · simp only [b1, if_true] at hp2
              refine .last b _ _ T (by omega) (ih _ tot ?_ hp1)
              rw [kab]; exact hp2
            · simp only [b1, if_false, List.nil_append] at hp2
              exact .more b _ _ T (by omega) (ih _ tot hp2 hp1)
    induction hp with
    | nil => intro T h; exact h
    | cons k hp ihp =>
      intro T h
      cases h with
      | dead _ _ _ _ q1 q2 => exact .dead k _ S T q1 (ihp q2)
      | more _ _ _ _ q1 q2 =>
        have := total_dec S k (by omega)
        exact .more k _ S T q1 (ih _ (by omega) hp q2)
      | last _ _ _ _ q1 q2 =>
        have := total_dec S k (by omega)
        exact .last k _ S T q1 (ih _ (by omega) (hp.append_left _) q2)
    | swap a b l => intro T h; exact swap a b l T h
    | trans _ _ ih1 ih2 => intro T h; exact ih2 (ih1 h)

end Go.Lite.Arena
