/-
  PURE, part c: the numbers that no node has, from the greatest down. Own work of this session.
-/
import Derived.Test.YtchffjnmkpedkaaPb
set_option linter.unusedSectionVars false
set_option linter.unusedSimpArgs false
set_option linter.unusedVariables false
namespace Go.Lite.Arena
set_option linter.unusedSectionVars false
set_option linter.unusedSimpArgs false
set_option linter.unusedVariables false

def freeOf (S : St) : List Int := ((List.range S.length).map fun i => ((S.length - i : Nat) : Int)).filter fun x => rf S x == 0

theorem mem_freeOf {S : St} {x : Int} : x ∈ freeOf S ↔ 1 ≤ x ∧ x ≤ S.length ∧ rf S x = 0 := by
  unfold freeOf
  rw [List.mem_filter, List.mem_map]
  constructor
  · rintro ⟨⟨i, hi, rfl⟩, h2⟩
    have := List.mem_range.1 hi
    exact ⟨by omega, by omega, by simpa using h2⟩
  · rintro ⟨h1, h2, h3⟩
    exact ⟨⟨S.length - x.toNat, List.mem_range.2 (by omega), by omega⟩, by simpa using h3⟩

theorem freeOf_desc (S : St) : (freeOf S).Pairwise (· > ·) := by
  unfold freeOf
  refine List.Pairwise.filter _ ?_
  rw [List.pairwise_map]
  have := List.pairwise_lt_range (n := S.length)
  refine this.imp_of_mem ?_
  intro i j hi hj hij
  have := List.mem_range.1 hi
  have := List.mem_range.1 hj
  show ((S.length - i : Nat) : Int) > ((S.length - j : Nat) : Int)
  omega

theorem desc_ext : ∀ {l m : List Int}, l.Pairwise (· > ·) → m.Pairwise (· > ·) → (∀ x, x ∈ l ↔ x ∈ m) → l = m
  | [], [], _, _, _ => rfl
  | [], b :: m, _, _, h => by have := (h b).2 (by simp); cases this
  | a :: l, [], _, _, h => by have := (h a).1 (by simp); cases this
  | a :: l, b :: m, hl, hm, h => by
    rw [List.pairwise_cons] at hl hm
    have hab : a = b := by
      have h1 := (h a).1 (by simp)
      have h2 := (h b).2 (by simp)
      rcases List.mem_cons.1 h1 with e | e
      · exact e
      · rcases List.mem_cons.1 h2 with e2 | e2
        · exact e2.symm
        · have := hm.1 a e; have := hl.1 b e2; omega
    subst hab
    rw [desc_ext hl.2 hm.2 fun x => ?_]
    constructor
    · intro hx
      rcases List.mem_cons.1 ((h x).1 (List.mem_cons_of_mem _ hx)) with e | e
      · subst e; have := hl.1 x hx; omega
      · exact e
    · intro hx
      rcases List.mem_cons.1 ((h x).2 (List.mem_cons_of_mem _ hx)) with e | e
      · subst e; have := hm.1 x hx; omega
      · exact e

theorem freeOf_length (S : St) : (freeOf S).length ≤ S.length := by
  unfold freeOf
  exact Nat.le_trans (List.length_filter_le _ _) (by simp)

/-- Where the number is to stand. -/
def Spot (free : List Int) (id : Int) (c : Nat) : Prop := c ≤ free.length ∧ (∀ j x, j < c → free[j]? = some x → id < x) ∧ ∀ j x, c ≤ j → free[j]? = some x → x ≤ id

theorem freeOf_gone {S S' : St} {k : Int} {c : Nat} (hlen : S'.length = S.length) (h1 : 1 ≤ k) (h2 : k ≤ S.length) (h0 : rf S k ≠ 0) (h0' : rf S' k = 0) (hr : ∀ x, x ≠ k → rf S' x = rf S x) (hs : Spot (freeOf S) k c) :
    freeOf S' = (freeOf S).take c ++ [k] ++ (freeOf S).drop c := by
  have hd := freeOf_desc S
  have hk : k ∉ freeOf S := fun h => h0 (mem_freeOf.1 h).2.2
  refine desc_ext (freeOf_desc S') ?_ ?_
  · have hsplit : ((freeOf S).take c ++ (freeOf S).drop c).Pairwise (· > ·) := by rw [List.take_append_drop]; exact hd
    rw [List.pairwise_append] at hsplit
    rw [List.append_assoc, List.pairwise_append]
    refine ⟨hsplit.1, ?_, ?_⟩
    · rw [List.singleton_append, List.pairwise_cons]
      refine ⟨?_, hsplit.2.1⟩
      intro x hx
      obtain ⟨j, hj⟩ := List.getElem?_of_mem hx
      rw [List.getElem?_drop] at hj
      have := hs.2.2 _ x (by omega) hj
      have hne : x ≠ k := fun e => hk (e ▸ List.mem_of_getElem? hj)
      show k > x
      omega
    · intro x hx y hy
      obtain ⟨j, hj⟩ := List.getElem?_of_mem hx
      rw [List.getElem?_take] at hj
      split at hj
      · rename_i hjc
        have hxk := hs.2.1 j x hjc hj
        rcases List.mem_append.1 hy with e | e
        · rw [List.mem_singleton.1 e]; exact hxk
        · exact hsplit.2.2 x hx y e
      · cases hj
  · intro x
    rw [mem_freeOf, hlen]
    rw [List.append_assoc, List.mem_append, List.mem_append, List.mem_singleton]
    have hmem : x ∈ freeOf S ↔ x ∈ (freeOf S).take c ∨ x ∈ (freeOf S).drop c := by rw [← List.mem_append, List.take_append_drop]
    by_cases e : x = k
    · subst e; simp [h0', h1, h2]
    · rw [hr x e]
      simp only [e, false_or]
      rw [← hmem, mem_freeOf]

/-- The order in which the numbers come again: the least one is the last one. -/
theorem freeOf_last {S : St} {id : Int} {m : Nat} (hm : (freeOf S).length = m + 1) (hid : (freeOf S)[m]? = some id) : ∀ x ∈ freeOf S, id ≤ x := by
  intro x hx
  obtain ⟨j, hj⟩ := List.getElem?_of_mem hx
  have hjl : j < (freeOf S).length := by
    rcases Nat.lt_or_ge j (freeOf S).length with hh | hh
    · exact hh
    · rw [List.getElem?_eq_none hh] at hj; cases hj
  by_cases e : j = m
  · subst e; rw [hid] at hj; cases hj; omega
  · have := List.pairwise_iff_getElem.1 (freeOf_desc S) j m hjl (by omega) (by omega)
    rw [List.getElem?_eq_getElem hjl] at hj
    rw [List.getElem?_eq_getElem (by omega)] at hid
    cases hj; cases hid
    omega

theorem Runs.length {p : List Int} {S T : St} (h : Runs p S T) : T.length = S.length := by
  induction h with
  | nil => rfl
  | dead _ _ _ _ _ _ ih => exact ih
  | more _ _ _ _ _ _ ih => rw [ih]; exact length_upd _ _ _
  | last _ _ _ _ _ _ ih => rw [ih]; exact length_upd _ _ _

theorem Runs.total {p : List Int} {S T : St} (h : Runs p S T) : Arena.total T ≤ Arena.total S := by
  induction h with
  | nil => exact Nat.le_refl _
  | dead _ _ _ _ _ _ ih => exact ih
  | more k _ S _ h1 _ ih => have := total_dec S k (by omega); omega
  | last k _ S _ h1 _ ih => have := total_dec S k (by omega); omega

theorem le_sum : ∀ {l : List Nat} {x : Nat}, x ∈ l → x ≤ l.sum
  | a :: l, x, h => by
    rw [List.sum_cons]
    rcases List.mem_cons.1 h with e | e
    · omega
    · have := le_sum e; omega

theorem rf_le_total (S : St) (k : Int) : rf S k ≤ Arena.total S := by
  by_cases h : rf S k = 0
  · omega
  · unfold rf at? at *
    split
    · rename_i h1
      cases hq : S[(k - 1).toNat]? with
      | none => simp
      | some x =>
        have : x.2 ∈ S.map (·.2) := List.mem_map.2 ⟨x, List.mem_of_getElem? hq, rfl⟩
        have := le_sum this
        simpa [Arena.total] using this
    · simp

/-- Zeros do not count. -/
theorem Runs.filter : ∀ {S T : St} (l p : List Int), Runs (l.filter (fun x => x != 0) ++ p) S T → Runs (l ++ p) S T
  | S, T, [], p, h => h
  | S, T, a :: l, p, h => by
    by_cases e : a = 0
    · subst e
      exact .dead 0 _ S T (by simp [rf, at?]) (Runs.filter l p (by simpa using h))
    · have hf : (a :: l).filter (fun x => x != 0) = a :: l.filter (fun x => x != 0) := by simp [e]
      rw [hf, List.cons_append] at h
      cases h with
      | dead _ _ _ _ q1 q2 => exact .dead a _ S T q1 (Runs.filter l p q2)
      | more _ _ _ _ q1 q2 => exact .more a _ S T q1 (Runs.filter l p q2)
      | last _ _ _ _ q1 q2 =>
        refine .last a _ S T q1 ?_
        have h1 : Runs (l.filter (fun x => x != 0) ++ (kidsOf S a ++ p)) (dec S a) T := by
          refine Runs.perm _ _ (Nat.le_refl _) ?_ q2
          exact List.perm_append_comm_assoc _ _ _
        exact Runs.perm _ _ (Nat.le_refl _) (List.perm_append_comm_assoc _ _ _) (Runs.filter l _ h1)

end Go.Lite.Arena
