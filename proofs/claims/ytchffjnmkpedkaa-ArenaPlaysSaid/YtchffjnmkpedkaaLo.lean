/-
  LITE, part o: a region whose order is open: every order comes to what the text's order comes to. Own work of this session.
-/
import Derived.Test.YtchffjnmkpedkaaLn
set_option linter.unusedSectionVars false
set_option linter.unusedSimpArgs false
set_option linter.unusedVariables false
namespace Go.Lite
set_option linter.unusedSectionVars false
set_option linter.unusedSimpArgs false
set_option linter.unusedVariables false
open Go.RowKit
variable [Ctx]

section
variable {P : Program} {call : Callee} {nt : Nat}

theorem lowerOps_get {ops : Array Oper} : ∀ {l : List Oper} {m : List SOp}, lowerOps P nt ops l = some m → m.length = l.length ∧ ∀ (k : Nat) (o : Oper), l[k]? = some o → ∃ s, m[k]? = some s ∧ lowerOper P nt ops o = some s
  | [], m, h => by simp only [lowerOps, Option.some.injEq] at h; subst h; exact ⟨rfl, fun k o e => by simp at e⟩
  | o :: l, m, h => by
    simp only [lowerOps] at h
    split at h
    case h_2 => cases h
    rename_i s m' e1 e2
    cases h
    obtain ⟨q1, q2⟩ := lowerOps_get e2
    refine ⟨by simp [q1], ?_⟩
    intro k x hx
    cases k with
    | zero => simp at hx; subst hx; exact ⟨s, by simp, e1⟩
    | succ k => obtain ⟨s', h1, h2⟩ := q2 k x (by simpa using hx); exact ⟨s', by simpa using h1, h2⟩

theorem withRange_get (md : Bool) (L : List SOp) (A : List (List Nat)) : ∀ (l : List SOp) (i k : Nat), (withRange md L A i l)[k]? = (l[k]?).map fun s => { s with lo := loudsBefore md L A (i + k), hi := loudsNotBehind md L A (i + k) }
  | [], i, k => by simp [withRange]
  | s :: l, i, 0 => by simp [withRange]
  | s :: l, i, k + 1 => by
    simp only [withRange, List.getElem?_cons_succ]
    rw [withRange_get md L A l (i + 1) k, show i + 1 + k = i + (k + 1) by omega]

theorem withRange_length (md : Bool) (L : List SOp) (A : List (List Nat)) : ∀ (l : List SOp) (i : Nat), (withRange md L A i l).length = l.length
  | [], _ => rfl
  | s :: l, i => by simp [withRange, withRange_length md L A l]

theorem chkA_spec {ops : Array Oper} {A : List (List Nat)} (h : chkA ops A = true) {i : Nat} {o : Oper} (ho : ops[i]? = some o) :
    (∀ e ∈ o.after.toList, Region.binds .any e = true → e.on < i) ∧ ∀ k, isAnc A i k = true → ∃ e ∈ o.after.toList, Region.binds .any e = true ∧ (e.on = k ∨ isAnc A e.on k = true) := by
  have hi : i < ops.size := by
    rcases Nat.lt_or_ge i ops.size with hh | hh
    · exact hh
    · rw [Array.getElem?_eq_none hh] at ho; cases ho
  have := List.all_eq_true.1 h i (List.mem_range.2 hi)
  rw [ho] at this
  simp only [Bool.and_eq_true] at this
  obtain ⟨h1, h2⟩ := this
  refine ⟨?_, ?_⟩
  · intro e he hb
    have := List.all_eq_true.1 h1 e he
    simpa [hb] using this
  · intro k hk
    have hk' : k ∈ A.getD i [] := by simpa [isAnc] using hk
    have := List.all_eq_true.1 h2 k hk'
    obtain ⟨e, he, hq⟩ := List.any_eq_true.1 this
    simp only [Bool.and_eq_true, Bool.or_eq_true, beq_iff_eq] at hq
    exact ⟨e, he, hq.1, hq.2⟩

theorem chkT_spec {ops : Array Oper} {A : List (List Nat)} (h : chkT ops A = true) {i k : Nat} {o : Oper} (ho : ops[i]? = some o) {t : Tmp} (hk : (ops[k]?).bind (·.dst) = some t) (hne : i ≠ k) :
    (t ∈ o.looksAt ops → isAnc A i k = true ∨ isAnc A k i = true) ∧ o.dst ≠ some t := by
  have hi : i < ops.size := by
    rcases Nat.lt_or_ge i ops.size with hh | hh
    · exact hh
    · rw [Array.getElem?_eq_none hh] at ho; cases ho
  have hk' : k < ops.size := by
    rcases Nat.lt_or_ge k ops.size with hh | hh
    · exact hh
    · rw [Array.getElem?_eq_none hh] at hk; cases hk
  have := List.all_eq_true.1 h i (List.mem_range.2 hi)
  rw [ho] at this
  have := List.all_eq_true.1 this k (List.mem_range.2 hk')
  rw [hk] at this
  simp only [Bool.or_eq_true, beq_iff_eq, hne, false_or, Bool.and_eq_true, Bool.not_eq_true', bne_iff_ne, ne_eq] at this
  refine ⟨fun ht => ?_, this.2⟩
  rcases this.1 with (h1 | h1) | h1
  · rw [List.contains_eq_mem] at h1; simp [ht] at h1
  · exact .inl h1
  · exact .inr h1

theorem chkL_spec {md : Bool} {l : List SOp} {A : List (List Nat)} (h : chkL md l A = true) {i k : Nat} {a b : SOp} (hik : i < k) (ha : l[i]? = some a) (hb : l[k]? = some b) (ca : a.o.cls md = .loud) (cb : b.o.cls md = .loud) : isAnc A k i = true := by
  have hk : k < l.length := by
    rcases Nat.lt_or_ge k l.length with hh | hh
    · exact hh
    · rw [List.getElem?_eq_none hh] at hb; cases hb
  have := List.all_eq_true.1 h k (List.mem_range.2 hk)
  have := List.all_eq_true.1 this i (List.mem_range.2 hik)
  rw [ha, hb] at this
  simpa [ca, cb] using this

theorem hoist_spec (md : Bool) : ∀ (l : List DOp) (gs : List (List AV)) (h : Hp), (hoist md l gs h).1.length = l.length ∧ h.next ≤ (hoist md l gs h).2.next ∧ (∀ b, b < h.next → (hoist md l gs h).2.get b = h.get b) ∧
    (∀ (i : Nat) (d : DOp), l[i]? = some d → d.o.cls md = .new → h.next ≤ ((hoist md l gs h).1.getD i (0, [])).1 ∧ ((hoist md l gs h).1.getD i (0, [])).1 < (hoist md l gs h).2.next ∧
      (hoist md l gs h).2.get ((hoist md l gs h).1.getD i (0, [])).1 = some ⟨((hoist md l gs h).1.getD i (0, [])).2, d.o.kind⟩) ∧
    (∀ (i k : Nat) (d e : DOp), l[i]? = some d → d.o.cls md = .new → l[k]? = some e → e.o.cls md = .new → ((hoist md l gs h).1.getD i (0, [])).1 = ((hoist md l gs h).1.getD k (0, [])).1 → i = k)
  | [], gs, h => ⟨rfl, Nat.le_refl _, fun _ _ => rfl, fun i d e => by simp at e, fun i k d e x => by simp at x⟩
  | d :: l, gs, h => by
    by_cases hd : d.o.cls md = .new
    · obtain ⟨q1, q2, q3, q4, q5⟩ := hoist_spec md l gs.tail (h.new ⟨gs.headD [], d.o.kind⟩)
      have hh : hoist md (d :: l) gs h = ((h.next, gs.headD []) :: (hoist md l gs.tail (h.new ⟨gs.headD [], d.o.kind⟩)).1, (hoist md l gs.tail (h.new ⟨gs.headD [], d.o.kind⟩)).2) := by
        simp only [hoist, hd, if_true]
      rw [hh]
      simp only [Hp.next_new] at q2 q3 q4
      refine ⟨by simp only [List.length_cons, q1], by simp only; omega, ?_, ?_, ?_⟩
      · intro b hb
        simp only
        rw [q3 b (by omega), Hp.get_new, if_neg (by omega)]
      · intro i x hx hc
        cases i with
        | zero =>
          simp only [List.getElem?_cons_zero, Option.some.injEq] at hx; subst hx
          simp only [List.getD_cons_zero]
          refine ⟨Nat.le_refl _, by omega, ?_⟩
          rw [q3 _ (by omega), Hp.get_new, if_pos rfl]
        | succ i =>
          have := q4 i x (by simpa using hx) hc
          simp only [List.getD_cons_succ]
          exact ⟨by omega, this.2.1, this.2.2⟩
      · intro i k x y hx hc hy hc' he
        cases i with
        | zero =>
          cases k with
          | zero => rfl
          | succ k =>
            have := q4 k y (by simpa using hy) hc'
            simp only [List.getD_cons_zero, List.getD_cons_succ] at he
            omega
        | succ i =>
          cases k with
          | zero =>
            have := q4 i x (by simpa using hx) hc
            simp only [List.getD_cons_zero, List.getD_cons_succ] at he
            omega
          | succ k =>
            simp only [List.getD_cons_succ] at he
            rw [q5 i k x y (by simpa using hx) hc (by simpa using hy) hc' he]
    · obtain ⟨q1, q2, q3, q4, q5⟩ := hoist_spec md l gs.tail h
      have hh : hoist md (d :: l) gs h = ((0, []) :: (hoist md l gs.tail h).1, (hoist md l gs.tail h).2) := by
        simp only [hoist, if_neg hd]
      rw [hh]
      refine ⟨by simp only [List.length_cons, q1], q2, q3, ?_, ?_⟩
      · intro i x hx hc
        cases i with
        | zero => simp only [List.getElem?_cons_zero, Option.some.injEq] at hx; subst hx; exact absurd hc hd
        | succ i => simp only [List.getD_cons_succ]; exact q4 i x (by simpa using hx) hc
      · intro i k x y hx hc hy hc' he
        cases i with
        | zero => simp only [List.getElem?_cons_zero, Option.some.injEq] at hx; subst hx; exact absurd hc hd
        | succ i =>
          cases k with
          | zero => simp only [List.getElem?_cons_zero, Option.some.injEq] at hy; subst hy; exact absurd hc' hd
          | succ k =>
            simp only [List.getD_cons_succ] at he
            rw [q5 i k x y (by simpa using hx) hc (by simpa using hy) hc' he]

/-- Whatever is listed: what it waits for is listed. -/
def Closed (ops : Array Oper) (S : Nat → Bool) : Prop := ∀ i o, ops[i]? = some o → S i = true → ∀ e ∈ o.after.toList, Region.binds .any e = true → S e.on = true

theorem anc_closed {ops : Array Oper} {A : List (List Nat)} (hA : chkA ops A = true) {S : Nat → Bool} (hS : Closed ops S) : ∀ (i : Nat), i < ops.size → S i = true → ∀ k, isAnc A i k = true → S k = true ∧ k < i := by
  intro i
  induction i using Nat.strongRecOn with
  | _ i ih =>
    intro hi hs k hk
    obtain ⟨o, ho⟩ : ∃ o, ops[i]? = some o := ⟨ops[i], Array.getElem?_eq_getElem hi⟩
    obtain ⟨h1, h2⟩ := chkA_spec hA ho
    obtain ⟨e, he, hb, hor⟩ := h2 k hk
    have hlt := h1 e he hb
    have hse := hS i o ho hs e he hb
    rcases hor with rfl | hor
    · exact ⟨hse, hlt⟩
    · obtain ⟨q1, q2⟩ := ih e.on hlt (by omega) hse k hor
      exact ⟨q1, by omega⟩

/-- The same of one that is about to be listed. -/
theorem anc_ready {ops : Array Oper} {A : List (List Nat)} (hA : chkA ops A = true) {S : Nat → Bool} (hS : Closed ops S) {i : Nat} {o : Oper} (hi : i < ops.size) (ho : ops[i]? = some o) (hr : ∀ e ∈ o.after.toList, Region.binds .any e = true → S e.on = true)
    {k : Nat} (hk : isAnc A i k = true) : S k = true ∧ k < i := by
  obtain ⟨h1, h2⟩ := chkA_spec hA ho
  obtain ⟨e, he, hb, hor⟩ := h2 k hk
  have hlt := h1 e he hb
  have hse := hr e he hb
  rcases hor with rfl | hor
  · exact ⟨hse, hlt⟩
  · obtain ⟨q1, q2⟩ := anc_closed hA hS e.on (by omega) hse k hor
    exact ⟨q1, by omega⟩

end
end Go.Lite
