/-
  PURE, part b: lists of parts of one length, and what lies where in them. Own work of this session.
-/
import Derived.Test.YtchffjnmkpedkaaPa
set_option linter.unusedSectionVars false
set_option linter.unusedSimpArgs false
set_option linter.unusedVariables false
namespace Go.Lite
set_option linter.unusedSectionVars false
set_option linter.unusedSimpArgs false
set_option linter.unusedVariables false

/-! ### A block's cells, read and written -/
section
variable {h : Hp} {b i n : Nat} {cs vs : List AV} {k : BK}
theorem Hp.cell_at (hb : h.get b = some ⟨cs, k⟩) (hk : k.hid = false) (i : Nat) : h.cell (b, i) = cs[i]? := by
  unfold Hp.cell; rw [hb]; simp [hk]
theorem Hp.cells_at (hb : h.get b = some ⟨cs, k⟩) (hk : k.hid = false) (hle : i + n ≤ cs.length) : h.cells (b, i) n = some ((cs.drop i).take n) := by
  unfold Hp.cells; rw [hb]; simp [hk, hle]
theorem Hp.write_at (hb : h.get b = some ⟨cs, k⟩) (hk : k.hid = false) (hro : k ≠ .ro) (hle : i + vs.length ≤ cs.length) (h1 : vs.all AV.one = true) : h.write (b, i) vs = some (h.put b ⟨splice cs i vs, k⟩) := by
  unfold Hp.write; rw [hb]; simp only [hk, Bool.false_eq_true, or_false, if_neg hro, if_pos hle, if_pos h1]
end

theorem AV.beqs_of : ∀ {l : List AV}, (∀ v ∈ l, AV.beq v v = true) → AV.beqs l l = true
  | [], _ => rfl
  | a :: l, h => by
    have h1 := h a (by simp)
    have h2 : AV.beqs l l = true := AV.beqs_of (fun v hv => h v (List.mem_cons_of_mem _ hv))
    simp only [AV.beqs, h1, h2, Bool.and_self]
theorem AV.beq_agg {l : List AV} (h : ∀ v ∈ l, AV.beq v v = true) : AV.beq (.agg l) (.agg l) = true := by simp only [AV.beq]; exact AV.beqs_of h

theorem fillA_nil (l : List AV) : fillA l [] = some l := rfl

/-- A loop, by what holds between two rounds. -/
theorem iter_inv {body : Fr → Hp → Option (X × Fr × Hp)} (I : Nat → Fr → Hp → Prop) (Q : X → Fr → Hp → Prop)
    (step : ∀ m fr h, I m fr h → (∃ m' fr' h', body fr h = some (.normal, fr', h') ∧ m' < m ∧ I m' fr' h') ∨ (∃ x fr' h', body fr h = some (x, fr', h') ∧ x ≠ .normal ∧ Q x fr' h')) :
    ∀ (fuel m : Nat) (fr : Fr) (h : Hp), m < fuel → I m fr h → ∃ x fr' h', iter body fuel fr h = some (x, fr', h') ∧ x ≠ .normal ∧ Q x fr' h'
  | 0, m, fr, h, hm, _ => by omega
  | fuel + 1, m, fr, h, hm, hI => by
    have hs : iter body (fuel + 1) fr h = match body fr h with
        | some (.normal, fr', h') => iter body fuel fr' h'
        | r => r := rfl
    rw [hs]
    rcases step m fr h hI with ⟨m', fr', h', e, hlt, hI'⟩ | ⟨x, fr', h', e, hx, hq⟩
    · rw [e]
      exact iter_inv I Q step fuel m' fr' h' (by omega) hI'
    · rw [e]
      refine ⟨x, fr', h', ?_, hx, hq⟩
      cases x with
      | normal => exact absurd rfl hx
      | exit i => rfl
      | ret => rfl

theorem evalDreg_false (call : Callee) (l : List DOp) (fr : Fr) (h : Hp) : evalDreg call false l fr h =
    match evalD call false l (hoist false l (guess0 l) h).1 fr (hoist false l (guess0 l) h).2 [(hoist false l (guess0 l) h).2] [] with
    | some (fr', hs, rs) => if readsOk hs rs then (match hs.getLast? with | some h' => some (fr', h') | none => none) else none
    | none => none := rfl

section
variable {α : Type} {f : α → List AV} {c : Nat}

theorem flat_length (hf : ∀ x, (f x).length = c) : ∀ l : List α, (l.flatMap f).length = l.length * c
  | [] => by simp
  | a :: l => by rw [List.flatMap_cons, List.length_append, flat_length hf l, hf, List.length_cons, Nat.add_mul]; omega

theorem flat_drop (hf : ∀ x, (f x).length = c) : ∀ (l : List α) (i : Nat), (l.flatMap f).drop (i * c) = (l.drop i).flatMap f
  | [], i => by simp
  | a :: l, 0 => by simp
  | a :: l, i + 1 => by
    rw [List.flatMap_cons, List.drop_succ_cons, ← flat_drop hf l i, List.drop_append, hf, List.drop_eq_nil_of_le (by rw [hf, Nat.add_mul]; omega), List.nil_append]
    congr 1
    rw [Nat.add_mul]; omega

theorem flat_take (hf : ∀ x, (f x).length = c) : ∀ (l : List α) (i : Nat), (l.flatMap f).take (i * c) = (l.take i).flatMap f
  | [], i => by simp
  | a :: l, 0 => by simp
  | a :: l, i + 1 => by
    rw [List.flatMap_cons, List.take_succ_cons, List.flatMap_cons, ← flat_take hf l i, List.take_append, hf, List.take_of_length_le (by rw [hf, Nat.add_mul]; omega)]
    congr 2
    rw [Nat.add_mul]; omega

theorem flat_get (hf : ∀ x, (f x).length = c) (l : List α) (i j : Nat) (hj : j < c) : (l.flatMap f)[i * c + j]? = (l[i]?).bind fun x => (f x)[j]? := by
  have h1 : (l.flatMap f)[i * c + j]? = ((l.flatMap f).drop (i * c))[j]? := by rw [List.getElem?_drop]
  rw [h1, flat_drop hf]
  cases hq : l[i]? with
  | none =>
    have : l.length ≤ i := by simpa using hq
    rw [List.drop_eq_nil_of_le this]; simp
  | some x =>
    have hlt : i < l.length := by
      rcases Nat.lt_or_ge i l.length with h | h
      · exact h
      · rw [List.getElem?_eq_none h] at hq; cases hq
    rw [List.drop_eq_getElem_cons hlt]
    have hx : l[i] = x := by rw [List.getElem?_eq_getElem hlt] at hq; exact Option.some.inj hq
    rw [hx, List.flatMap_cons, List.getElem?_append_left (by rw [hf]; exact hj)]
    rfl

/-- Cells of a part. -/
theorem flat_cells (hf : ∀ x, (f x).length = c) (l : List α) (i o n : Nat) (x : α) (hx : l[i]? = some x) (hn : o + n ≤ c) : ((l.flatMap f).drop (i * c + o)).take n = ((f x).drop o).take n := by
  apply List.ext_getElem?
  intro j
  simp only [List.getElem?_take, List.getElem?_drop]
  split
  · rw [show i * c + o + j = i * c + (o + j) by omega, flat_get hf l i (o + j) (by omega), hx]; rfl
  · rfl

theorem splice_length' : ∀ (vs l : List AV) (o : Nat), (splice l o vs).length = l.length
  | [], l, o => rfl
  | v :: vs, l, o => by simp only [splice]; rw [splice_length' vs]; simp

theorem splice_get : ∀ (vs l : List AV) (o i : Nat), o + vs.length ≤ l.length → (splice l o vs)[i]? = if o ≤ i ∧ i < o + vs.length then vs[i - o]? else l[i]?
  | [], l, o, i, h => by simp only [splice]; rw [if_neg (by simp only [List.length_nil]; omega)]
  | v :: vs, l, o, i, h => by
    simp only [splice]
    simp only [List.length_cons] at h
    rw [splice_get vs _ _ _ (by simp; omega)]
    by_cases h1 : o + 1 ≤ i ∧ i < o + 1 + vs.length
    · rw [if_pos h1, if_pos (by simp; omega), show i - o = (i - (o + 1)) + 1 by omega]; simp
    · rw [if_neg h1]
      by_cases h2 : i = o
      · subst h2
        rw [if_pos (by simp)]
        simp [show i < l.length by omega]
      · rw [if_neg (by simp; omega), List.getElem?_set_ne (Ne.symm h2)]

/-- Cells of a part, written. -/
theorem flat_splice (hf : ∀ x, (f x).length = c) (l : List α) (i o : Nat) (x y : α) (vs : List AV) (hx : l[i]? = some x) (ho : o + vs.length ≤ c) (hy : f y = splice (f x) o vs) : splice (l.flatMap f) (i * c + o) vs = (l.set i y).flatMap f := by
  have hlt : i < l.length := by
    rcases Nat.lt_or_ge i l.length with h | h
    · exact h
    · rw [List.getElem?_eq_none h] at hx; cases hx
  have hb : i * c + c ≤ l.length * c := by
    have : (i + 1) * c ≤ l.length * c := Nat.mul_le_mul_right _ hlt
    rw [Nat.add_mul] at this; omega
  apply List.ext_getElem?
  intro j
  rw [splice_get _ _ _ _ (by rw [flat_length hf]; omega)]
  by_cases hc0 : c = 0
  · have : vs = [] := List.eq_nil_of_length_eq_zero (by omega)
    subst this
    rw [if_neg (by simp only [List.length_nil]; omega)]
    have e1 : (l.flatMap f) = [] := List.eq_nil_of_length_eq_zero (by rw [flat_length hf, hc0]; simp)
    have e2 : ((l.set i y).flatMap f) = [] := List.eq_nil_of_length_eq_zero (by rw [flat_length hf, hc0]; simp)
    rw [e1, e2]
  have hcp : 0 < c := by omega
  have hj : j = j / c * c + j % c := by rw [Nat.mul_comm]; exact (Nat.div_add_mod j c).symm
  have hm : j % c < c := Nat.mod_lt _ hcp
  generalize j / c = q at hj
  generalize j % c = r at hj hm
  subst hj
  rw [flat_get hf _ q r hm, flat_get hf _ q r hm]
  by_cases hqi : q = i
  · subst hqi
    rw [List.getElem?_set_self hlt, hx]
    simp only [Option.bind_some]
    rw [hy, splice_get _ _ _ _ (by rw [hf]; exact ho)]
    by_cases h1 : o ≤ r ∧ r < o + vs.length
    · rw [if_pos h1, if_pos (by omega), show q * c + r - (q * c + o) = r - o by omega]
    · rw [if_neg h1, if_neg (by omega)]
  · rw [List.getElem?_set_ne (Ne.symm hqi)]
    have : ¬ (i * c + o ≤ q * c + r ∧ q * c + r < i * c + o + vs.length) := by
      intro ⟨a1, a2⟩
      rcases Nat.lt_or_gt_of_ne hqi with h | h
      · have := Nat.mul_le_mul_right c (show q + 1 ≤ i from h); rw [Nat.add_mul] at this; omega
      · have := Nat.mul_le_mul_right c (show i + 1 ≤ q from h); rw [Nat.add_mul] at this; omega
    rw [if_neg this]

end
end Go.Lite
