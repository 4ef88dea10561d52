/-
  The arena: the account, when a node is made. Pure. Own work of this session.
-/
import Derived.Test.YtchffjnmkpedkaaBa
import Derived.Test.YtchffjnmkpedkaaPd
set_option linter.unusedSectionVars false
set_option linter.unusedSimpArgs false
set_option linter.unusedVariables false
namespace Go.Lite.Arena
set_option linter.unusedSectionVars false
set_option linter.unusedSimpArgs false
set_option linter.unusedVariables false

theorem NewAt.facts {S S1 : St} {id : Int} {m : Nd} (h : NewAt S id m S1) : rf S id = 0 ∧ 1 ≤ id ∧ (∀ x, rf S1 x = if x = id then 1 else rf S x) ∧ (∀ x, asks S1 x = asks S x + m.kids.count x) ∧ (∀ x, x ≠ id → ndOf S1 x = ndOf S x) ∧ ndOf S1 id = some m := by
  rcases h with ⟨hf, rfl, rfl⟩ | ⟨hid, hmin, rfl⟩
  · refine ⟨?_, by omega, fun x => rf_push S m x, fun x => ?_, fun x hx => ?_, ?_⟩
    · unfold rf at?; rw [if_pos (by omega), List.getElem?_eq_none (by omega)]; rfl
    · unfold asks; simp [askOf]
    · unfold ndOf at?
      split
      · rw [List.getElem?_append]
        split
        · rfl
        · rw [List.getElem?_eq_none (by simp; omega), List.getElem?_eq_none (by omega)]
      · rfl
    · unfold ndOf at?
      rw [if_pos (by omega), List.getElem?_append_right (by omega), show ((S.length : Int) + 1 - 1).toNat - S.length = 0 by omega]; rfl
  · obtain ⟨h1, h2, h3⟩ := mem_freeOf.1 hid
    have hlt : (id - 1).toNat < S.length := by omega
    have hq := List.getElem?_eq_getElem hlt
    refine ⟨h3, h1, fun x => rf_set S id m x h1 h2, fun x => ?_, fun x hx => ?_, ?_⟩
    · unfold rf at? at h3
      rw [if_pos h1, hq] at h3
      have h3' : (S[(id - 1).toNat]'hlt).2 = 0 := h3
      have := sum_set_gen (askOf x) (m, 1) S _ _ hq
      unfold asks
      have e1 : askOf x (S[(id - 1).toNat]'hlt) = 0 := by unfold askOf; rw [if_pos h3']
      have e2 : askOf x (m, 1) = m.kids.count x := rfl
      rw [e1, e2] at this
      omega
    · unfold ndOf at?
      split
      · rw [List.getElem?_set_ne (by omega)]
      · rfl
    · unfold ndOf at?
      rw [if_pos h1, List.getElem?_set_self hlt]; rfl

theorem incs_rf (S : St) (l : List Int) (x : Int) : rf (incs S l) x = if rf S x = 0 then 0 else rf S x + l.count x := by
  induction l generalizing S with
  | nil => simp [incs]
  | cons a l ih =>
    have e : incs S (a :: l) = incs (if rf S a = 0 then S else inc S a) l := rfl
    rw [e, List.count_cons]
    split
    · rename_i hz
      rw [ih]
      by_cases hx : a = x
      · subst hx; rw [if_pos hz, if_pos hz]
      · simp [hx]
    · rename_i hz
      rw [ih, rf_inc _ _ _ hz]
      by_cases hx : x = a
      · subst hx; rw [if_pos rfl, if_neg (by omega), if_neg hz]; simp; omega
      · rw [if_neg hx, if_neg (show ¬ (a == x) = true by simpa using fun e => hx e.symm), Nat.add_zero]

theorem incs_asks (S : St) (l : List Int) (x : Int) : asks (incs S l) x = asks S x := by
  induction l generalizing S with
  | nil => rfl
  | cons a l ih =>
    have e : incs S (a :: l) = incs (if rf S a = 0 then S else inc S a) l := rfl
    rw [e]
    split
    · exact ih S
    · rename_i hz
      rw [ih, asks_inc x hz]

theorem incs_nd (S : St) (l : List Int) (x : Int) : ndOf (incs S l) x = ndOf S x := by
  induction l generalizing S with
  | nil => rfl
  | cons a l ih =>
    have e : incs S (a :: l) = incs (if rf S a = 0 then S else inc S a) l := rfl
    rw [e]
    split
    · exact ih S
    · rw [ih]; exact nd_upd _ _ _ _

/-- A node made: the account. -/
theorem make_account {S S1 : St} {id : Int} {m : Nd} (h : NewAt S id m S1) (hok : m.kids.all (kidOk S) = true) {x : Int} (hx : x ≠ 0) {c : Nat} (e : rf S x = c + asks S x) :
    rf (incs S1 m.kids) x = (c + if x = id then 1 else 0) + asks (incs S1 m.kids) x := by
  obtain ⟨h0, h1, hr, ha, _, _⟩ := h.facts
  have hc : rf S x = 0 → m.kids.count x = 0 := by
    intro hz
    rw [List.count_eq_zero]
    intro hm
    have := List.all_eq_true.1 hok x hm
    simp [kidOk, hx, hz] at this
  rw [incs_rf, incs_asks, ha, hr]
  by_cases hxi : x = id
  · subst hxi
    rw [if_pos rfl, if_neg (by omega), if_pos rfl, hc h0]
    rw [h0] at e
    omega
  · rw [if_neg hxi, if_neg hxi]
    split
    · rename_i hz
      rw [hc hz]; omega
    · omega

/-- What ArenaStays keeps. -/
structure Stays (id : Int) (m : Nd) (i : Nat) (S : St) : Prop where
  pos : 1 ≤ id
  acc : rf S id = 1 + asks S id
  nd : ndOf S id = some m
  len : S.length ≤ i
  tot : total S ≤ 9 * i

theorem Stays.make {id : Int} {m : Nd} {i : Nat} {S : St} (I : Stays id m i S) {id' : Int} {m' : Nd} {S1 : St} (h : NewAt S id' m' S1) (hok : m'.kids.all (kidOk S) = true) : Stays id m (i + 1) (incs S1 m'.kids) := by
  obtain ⟨p, a, n, l, t⟩ := I
  obtain ⟨h0, h1, hr, ha, hn, _⟩ := h.facts
  have hne : id ≠ id' := by rintro rfl; rw [h0] at a; omega
  have := make_account h hok (x := id) (by omega) a
  rw [if_neg hne, Nat.add_zero] at this
  obtain ⟨f1, f2, _⟩ := incs_facts S1 m'.kids
  obtain ⟨t1, t2⟩ := new_total h
  have := m'.hk
  exact ⟨p, by assumption, by rw [incs_nd, hn id hne]; exact n, by omega, by omega⟩

theorem Stays.drop {id : Int} {m : Nd} {i : Nat} {S S' : St} (I : Stays id m i S) {x : Int} (hx : x ≠ id) (h : Runs [x] S S') : Stays id m (i + 1) S' := by
  obtain ⟨p, a, n, l, t⟩ := I
  have := h.account (x := id) (c := 1) (by rw [a, List.count_cons, if_neg (by simpa using hx)]; rfl)
  have h1 := h.length
  have h2 := h.total
  exact ⟨p, this, by rw [h.nd]; exact n, by omega, by omega⟩

theorem Stays.mono {id : Int} {m : Nd} {i : Nat} {S : St} (I : Stays id m i S) : Stays id m (i + 1) S := ⟨I.pos, I.acc, I.nd, by have := I.len; omega, by have := I.tot; omega⟩

end Go.Lite.Arena
