/-
  PURE, part d: who asks for a node; what is given back keeps the account. Own work of this session.
-/
import Derived.Test.YtchffjnmkpedkaaPc
set_option linter.unusedSectionVars false
set_option linter.unusedSimpArgs false
set_option linter.unusedVariables false
namespace Go.Lite.Arena
set_option linter.unusedSectionVars false
set_option linter.unusedSimpArgs false
set_option linter.unusedVariables false

/-- How often the nodes that there are ask for a node. -/
def askOf (x : Int) (y : Nd × Nat) : Nat := if y.2 = 0 then 0 else y.1.kids.count x
def asks (S : St) (x : Int) : Nat := (S.map (askOf x)).sum

theorem sum_modify_gen {α : Type} (g : α → Nat) (f : α → α) : ∀ (l : List α) (i : Nat) (x : α), l[i]? = some x → ((l.modify i f).map g).sum + g x = (l.map g).sum + g (f x)
  | [], i, x, h => by simp at h
  | a :: l, 0, x, h => by simp at h; subst h; simp [List.modify_cons]; omega
  | a :: l, i + 1, x, h => by
    simp at h
    have := sum_modify_gen g f l i x h
    simp [List.modify_cons]; omega

theorem sum_set_gen {α : Type} (g : α → Nat) (y : α) : ∀ (l : List α) (i : Nat) (x : α), l[i]? = some x → ((l.set i y).map g).sum + g x = (l.map g).sum + g y
  | [], i, x, h => by simp at h
  | a :: l, 0, x, h => by simp at h; subst h; simp; omega
  | a :: l, i + 1, x, h => by
    simp at h
    have := sum_set_gen g y l i x h
    simp only [List.set_cons_succ, List.map_cons, List.sum_cons]; omega

theorem asks_dec {S : St} {k : Int} (x : Int) (h : rf S k ≠ 0) : asks (dec S k) x + (if rf S k = 1 then (kidsOf S k).count x else 0) = asks S x := by
  unfold rf at? at h
  unfold kidsOf rf at? asks dec upd
  split at h
  · rename_i hk
    rw [if_pos hk]
    cases hq : S[(k - 1).toNat]? with
    | none => rw [hq] at h; exact absurd rfl h
    | some y =>
      obtain ⟨n, r⟩ := y
      rw [hq] at h
      replace h : r ≠ 0 := h
      have := sum_modify_gen (askOf x) (fun x => (x.1, x.2 - 1)) S _ (n, r) hq
      try rw [if_pos hk]
      try rw [hq]
      show _ + (if r = 1 then List.count x n.kids else 0) = _
      simp only [askOf] at this ⊢
      rw [if_neg h] at this
      by_cases h1 : r = 1
      · subst h1; rw [if_pos rfl]; simp at this ⊢; exact this
      · rw [if_neg (by omega)] at this
        rw [if_neg h1]; omega
  · simp at h

theorem asks_inc {S : St} {k : Int} (x : Int) (h : rf S k ≠ 0) : asks (inc S k) x = asks S x := by
  unfold rf at? at h
  unfold asks inc upd
  split at h
  · rename_i hk
    rw [if_pos hk]
    cases hq : S[(k - 1).toNat]? with
    | none => rw [hq] at h; exact absurd rfl h
    | some y =>
      obtain ⟨n, r⟩ := y
      rw [hq] at h
      replace h : r ≠ 0 := h
      have := sum_modify_gen (askOf x) (fun x => (x.1, x.2 + 1)) S _ (n, r) hq
      simp only [askOf] at this ⊢
      rw [if_neg h, if_neg (by omega)] at this
      omega
  · simp at h

/-- What is given back keeps the account. -/
theorem Runs.account {p : List Int} {S T : St} (h : Runs p S T) {x : Int} {c : Nat} : rf S x = c + asks S x + p.count x → rf T x = c + asks T x := by
  induction h with
  | nil S => intro e; simpa using e
  | dead k p S T h1 h2 ih =>
    intro e
    refine ih ?_
    rw [List.count_cons] at e
    by_cases hk : k = x
    · subst hk; rw [h1] at e; simp at e
    · rw [if_neg (by simpa using hk)] at e; exact e
  | more k p S T h1 h2 ih =>
    intro e
    refine ih ?_
    have ha := asks_dec x (S := S) (k := k) (by omega)
    rw [if_neg (by omega)] at ha
    rw [List.count_cons] at e
    rw [rf_dec]
    by_cases hk : k = x
    · subst hk; simp at e ⊢; omega
    · rw [if_neg (by simpa using hk)] at e; rw [if_neg (fun e => hk e.symm)]; omega
  | last k p S T h1 h2 ih =>
    intro e
    refine ih ?_
    have ha := asks_dec x (S := S) (k := k) (by omega)
    rw [if_pos h1] at ha
    rw [List.count_cons] at e
    rw [rf_dec, List.count_append]
    by_cases hk : k = x
    · subst hk; simp at e ⊢; omega
    · rw [if_neg (by simpa using hk)] at e; rw [if_neg (fun e => hk e.symm)]; omega

/-- A node's leaf, parts and entries. -/
def ndOf (S : St) (id : Int) : Option Nd := (at? S id).map (·.1)

theorem nd_upd (g : Nat → Nat) (S : St) (k x : Int) : ndOf (upd g S k) x = ndOf S x := by
  unfold ndOf
  rw [at_upd]
  split
  · cases at? S x <;> simp
  · rfl

theorem Runs.nd {p : List Int} {S T : St} (h : Runs p S T) (x : Int) : ndOf T x = ndOf S x := by
  induction h with
  | nil S => rfl
  | dead _ _ _ _ _ _ ih => exact ih
  | more k _ _ _ _ _ ih => rw [ih]; exact nd_upd _ _ _ _
  | last k _ _ _ _ _ ih => rw [ih]; exact nd_upd _ _ _ _

end Go.Lite.Arena
