/-
  The arena: Make, whole. Own work of this session.
-/
import Derived.Test.YtchffjnmkpedkaaAy
set_option linter.unusedSectionVars false
set_option linter.unusedSimpArgs false
set_option linter.unusedVariables false
namespace Go.Lite.Arena
set_option linter.unusedSectionVars false
set_option linter.unusedSimpArgs false
set_option linter.unusedVariables false
/-- The parts are asked for once more. -/
def incs (S : St) (l : List Int) : St := l.foldl (fun S k => if rf S k = 0 then S else inc S k) S
/-- A node more. -/
def NewAt (S : St) (id : Int) (m : Nd) (S1 : St) : Prop :=
  (freeOf S = [] ∧ id = S.length + 1 ∧ S1 = S ++ [(m, 1)]) ∨ (id ∈ freeOf S ∧ (∀ x ∈ freeOf S, id ≤ x) ∧ S1 = S.set (id - 1).toNat (m, 1))

theorem rf_inc (S : St) (k x : Int) (hk : rf S k ≠ 0) : rf (inc S k) x = if x = k then rf S x + 1 else rf S x := by
  by_cases e : x = k
  · subst e; rw [if_pos rfl]; exact (rf_upd (· + 1) S x x (.inl hk)).trans (if_pos rfl)
  · rw [if_neg e]; unfold rf inc; rw [at_upd, if_neg e]

theorem sum_modify_le : ∀ (l : List (Nd × Nat)) (i : Nat), ((l.modify i fun x => (x.1, x.2 + 1)).map (·.2)).sum ≤ (l.map (·.2)).sum + 1
  | [], i => by simp
  | a :: l, 0 => by simp [List.modify_cons]; omega
  | a :: l, i + 1 => by
    have := sum_modify_le l i
    simp [List.modify_cons]; omega

theorem total_inc (S : St) (k : Int) : total (inc S k) ≤ total S + 1 := by
  unfold total inc upd
  split
  · exact sum_modify_le _ _
  · omega

theorem incs_snoc (S : St) (l : List Int) (x : Int) : incs S (l ++ [x]) = if rf (incs S l) x = 0 then incs S l else inc (incs S l) x := by
  unfold incs; rw [List.foldl_append]; rfl

theorem incs_facts (S : St) (l : List Int) : (incs S l).length = S.length ∧ total (incs S l) ≤ total S + l.length ∧ ∀ x, rf (incs S l) x = 0 ↔ rf S x = 0 := by
  induction l generalizing S with
  | nil => exact ⟨rfl, Nat.le_refl _, fun _ => Iff.rfl⟩
  | cons a l ih =>
    have e : incs S (a :: l) = incs (if rf S a = 0 then S else inc S a) l := rfl
    rw [e]
    split
    · obtain ⟨h1, h2, h3⟩ := ih S
      exact ⟨h1, by simp; omega, h3⟩
    · rename_i hz
      obtain ⟨h1, h2, h3⟩ := ih (inc S a)
      have := total_inc S a
      refine ⟨by rw [h1]; exact length_upd _ _ _, by simp; omega, fun x => ?_⟩
      rw [h3, rf_inc _ _ _ hz]
      split
      · rename_i e; subst e; constructor
        · intro hh; omega
        · intro hh; exact absurd hh hz
      · exact Iff.rfl

theorem rf_set (S : St) (id : Int) (m : Nd) (x : Int) (h1 : 1 ≤ id) (h2 : id ≤ S.length) : rf (S.set (id - 1).toNat (m, 1)) x = if x = id then 1 else rf S x := by
  unfold rf at?
  by_cases hx : 1 ≤ x
  · rw [if_pos hx, if_pos hx, List.getElem?_set]
    by_cases e : x = id
    · subst e; rw [if_pos rfl, if_pos rfl, if_pos (by omega)]; rfl
    · rw [if_neg (by omega), if_neg e]
  · rw [if_neg hx, if_neg hx, if_neg (by omega)]

theorem rf_push (S : St) (m : Nd) (x : Int) : rf (S ++ [(m, 1)]) x = if x = S.length + 1 then 1 else rf S x := by
  unfold rf at?
  by_cases hx : 1 ≤ x
  · rw [if_pos hx, if_pos hx, List.getElem?_append]
    by_cases e : x = S.length + 1
    · subst e
      rw [if_pos rfl, if_neg (by omega), show ((S.length : Int) + 1 - 1).toNat - S.length = 0 by omega]; rfl
    · rw [if_neg e]
      split
      · rfl
      · rw [List.getElem?_eq_none (by simp; omega), List.getElem?_eq_none (by omega)]
  · rw [if_neg hx, if_neg hx, if_neg (by omega)]

theorem freeOf_push (S : St) (m : Nd) (h : freeOf S = []) : freeOf (S ++ [(m, 1)]) = [] := by
  rw [List.eq_nil_iff_forall_not_mem]
  intro x hx
  obtain ⟨h1, h2, h3⟩ := mem_freeOf.1 hx
  rw [rf_push] at h3
  split at h3
  · omega
  · have : x ∈ freeOf S := mem_freeOf.2 ⟨h1, by simp at h2; omega, h3⟩
    rw [h] at this; cases this

theorem freeOf_fill (S : St) (m : Nd) {id : Int} (hid : id ∈ freeOf S) (hmin : ∀ x ∈ freeOf S, id ≤ x) : freeOf S = freeOf (S.set (id - 1).toNat (m, 1)) ++ [id] := by
  obtain ⟨h1, h2, h3⟩ := mem_freeOf.1 hid
  have hr := fun x => rf_set S id m x h1 h2
  have hmem : ∀ x ∈ freeOf (S.set (id - 1).toNat (m, 1)), id < x := by
    intro x hx
    obtain ⟨q1, q2, q3⟩ := mem_freeOf.1 hx
    rw [hr] at q3
    split at q3
    · omega
    · have := hmin x (mem_freeOf.2 ⟨q1, by simpa using q2, q3⟩)
      omega
  have := freeOf_gone (S := S.set (id - 1).toNat (m, 1)) (S' := S) (k := id) (c := (freeOf (S.set (id - 1).toNat (m, 1))).length) (by simp) h1 (by simpa using h2) (by rw [hr, if_pos rfl]; omega) h3 (fun x e => by rw [hr, if_neg e])
    ⟨Nat.le_refl _, fun j x _ hx => hmem x (List.mem_of_getElem? hx), fun j x hj hx => by rw [List.getElem?_eq_none hj] at hx; cases hx⟩
  simpa using this

theorem total_set_le : ∀ (S : St) (i : Nat) (m : Nd), total (S.set i (m, 1)) ≤ total S + 1
  | [], i, m => by simp [total]
  | a :: l, 0, m => by simp [total]; omega
  | a :: l, i + 1, m => by
    have := total_set_le l i m
    simp [total] at this ⊢; omega

theorem new_total {S : St} {id : Int} {m : Nd} {S1 : St} (h : NewAt S id m S1) : total S1 ≤ total S + 1 ∧ S1.length ≤ S.length + 1 := by
  rcases h with ⟨_, _, rfl⟩ | ⟨_, _, rfl⟩
  · simp [total]
  · exact ⟨total_set_le _ _ _, by simp⟩

theorem splice_full (l vs : List AV) (h : l.length = vs.length) : splice l 0 vs = vs := by
  apply List.ext_getElem?
  intro i
  rw [splice_get _ _ _ _ (by omega)]
  split
  · rfl
  · rw [List.getElem?_eq_none (by omega), List.getElem?_eq_none (by omega)]
end Go.Lite.Arena

namespace Go.Proofs.Ytchffjnmkpedkaa
open Go.Lite Go.RowKit Go.Lite.Arena
set_option maxHeartbeats 4000000
set_option maxRecDepth 10000

theorem slotC_one (x : Nd × Nat) : (slotC x).all AV.one = true := by
  unfold slotC; rw [List.all_append, nodeC_one]; rfl

theorem slot_write {h : Hp} {b : Nat} {S : St} {i : Nat} {y : Nd × Nat} (hb : h.get b = some ⟨S.flatMap slotC, .grown 26⟩) (hi : i < S.length) : h.write (b, i * 26) (slotC y) = some (h.put b ⟨(S.set i y).flatMap slotC, .grown 26⟩) := by
  have hle : i * 26 + 26 ≤ S.length * 26 := by
    have := Nat.mul_le_mul_right 26 (show i + 1 ≤ S.length from hi)
    omega
  rw [Hp.write_at hb rfl (by simp) (by rw [slotC_len, flat_length slotC_len]; omega) (slotC_one y)]
  have := flat_splice slotC_len S i 0 S[i] y (slotC y) (List.getElem?_eq_getElem hi) (by rw [slotC_len]; omega) (splice_full _ _ (by rw [slotC_len, slotC_len])).symm
  rw [Nat.add_zero] at this
  rw [this]

section
variable {k : Nat}

/-- Between two rounds of the loop that counts up. -/
def IncI (kids : List Int) (S : St) (b : Nat) (fr0 : Fr) (h0 : Hp) (m : Nat) (fr : Fr) (h : Hp) : Prop :=
  ∃ i : Nat, m = 8 - i ∧ i ≤ 8 ∧ fr.get 53 = some (.agg (kids.map (AV.int .i64))) ∧ fr.get 54 = some (.int .i64 i) ∧ fr.get 0 = fr0.get 0 ∧ fr.get 8 = fr0.get 8 ∧ h.next = h0.next ∧ (∀ c, c ≠ b → h.get c = h0.get c) ∧ h.get b = some ⟨(incs S (kids.take i)).flatMap slotC, .grown 26⟩

theorem inc_step {a b : Nat} {kids : List Int} {S : St} {fr0 : Fr} {h0 : Hp} {most : Int} {fl : AV} (hk : 0 < k) (h8 : kids.length = 8) (hab : a ≠ b) (hlen : S.length < 1000000) (htot : total S + 8 < 1000000000) (g00 : fr0.get 0 = some (.ptr (some (a, 0)))) (hA : h0.get a = some ⟨[.int .i64 most, .slice (some (b, 0)) S.length (.more 26), fl], .own⟩)
    (m : Nat) (fr : Fr) (h : Hp) (I : IncI kids S b fr0 h0 m fr h) :
    (∃ m' fr' h', evalS (evalT F2 k) k s15_l1 fr h = some (.normal, fr', h') ∧ m' < m ∧ IncI kids S b fr0 h0 m' fr' h') ∨
    (∃ x fr' h', evalS (evalT F2 k) k s15_l1 fr h = some (x, fr', h') ∧ x ≠ .normal ∧ x = .exit 2 ∧ fr'.get 8 = fr0.get 8 ∧ h'.next = h0.next ∧ (∀ c, c ≠ b → h'.get c = h0.get c) ∧ h'.get b = some ⟨(incs S kids).flatMap slotC, .grown 26⟩) := by
  obtain ⟨i, rfl, hi, g53, g54, g0, g8, hn, hc, hb⟩ := I
  have g0' : fr.get 0 = some (.ptr (some (a, 0))) := by rw [g0, g00]
  by_cases hlt : i < 8
  · left
    have g55 : decide ((i : Int) < 8) = true := by simp; omega
    have b1 : 0 ≤ (i : Int) ∧ (i : Int) < ((8 : Nat) : Int) := by omega
    have hx := List.getElem?_eq_getElem (l := kids) (show i < kids.length by omega)
    generalize hxv : kids[i]'(by omega) = x at hx
    have p1 : (kids.map (AV.int .i64))[i]? = some (.int .i64 x) := by rw [List.getElem?_map, hx]; rfl
    have w1 : IntKind.i64.wrap ((i : Int) + 1) = ((i + 1 : Nat) : Int) := by rw [wrap_id (by omega) (by omega)]; simp
    have htake : kids.take (i + 1) = kids.take i ++ [x] := by rw [List.take_add_one, hx]; rfl
    obtain ⟨f1, f2, f3⟩ := incs_facts S (kids.take i)
    have hA1 : h.get a = some ⟨[.int .i64 most, .slice (some (b, 0)) (incs S (kids.take i)).length (.more 26), fl], .own⟩ := by rw [hc a hab, hA, f1]
    have e1 := slot_ok (n := k) hk hA1 (bs := [b]) ⟨rfl, hb⟩ (by omega) x
    simp only [List.headD_cons] at e1
    by_cases hz : rf (incs S (kids.take i)) x = 0
    · rw [slotP, if_pos hz] at e1
      refine ⟨8 - (i + 1), _, h, (by simp (maxSteps := 4000000) only [evalT_fn, BK.hid, cond_true, cond_false, guess0, List.tail_nil, List.headD_nil, evalS, evalOps, evalOp, evalO, wantedA, opd, opds, optOpd, optInt, putO, frameOf, T.get_set, T.get_nil, Option.map_some, Option.map_none, Nat.reduceEqDiff, if_true, if_false, reduceIte, reduceCtorEq, Nat.reduceAdd, resA, oneOrTuple, binA, binInt, eqA, lenA, capA, unA, partA, partsA, fillA_nil, sliceA, bounds_none, bounds_lo, bounds_hi, bounds_lohi, evalDreg_false, List.take_succ_cons, List.take_zero, List.take_nil, List.drop_zero, List.drop_succ_cons, List.drop_nil, AV.beq, eq_self, hoist, evalD, O.cls, readsOk, List.tail_cons, List.headD_cons, List.nil_append, List.cons_append, List.getLast?_cons_cons, List.getLast?_singleton, Nat.sub_zero, Int.toNat_natCast, ite_self, Nat.add_zero, Nat.zero_add, Nat.zero_mul, Option.isNone_none, Option.isNone_some, Option.isSome_none, Option.isSome_some, Int.reduceBEq, Int.reduceBNe, Int.reduceLT, Int.reduceLE, Int.reduceGT, Int.reduceGE, Int.reduceEq, decide_true, decide_false, Bool.not_true, Bool.not_false, Int.reduceMul, Int.reduceAdd, Int.reduceSub, Int.reduceToNat, Nat.reduceMul, Nat.reduceSub, Nat.reduceLT, Nat.reduceLeDiff, beq_self_eq_true, bne_self_eq_false, Bool.true_beq, Bool.false_beq, ne_eq, not_true_eq_false, not_false_eq_true, Bool.false_eq_true, Bool.or_self, or_self, AV.cells, AV.one, List.all_cons, List.all_nil, Bool.and_true, Bool.true_and, List.length_cons, List.length_nil, splice, List.set_cons_zero, List.set_cons_succ, Nat.le_refl, Nat.reduceLeDiff, iter_succ, readA, readK, loadA, List.getElem?_cons_zero, List.getElem?_cons_succ, Bool.and_self, and_self, and_true, true_and, s15_l1, g53, g54, g0', g55, b1, p1, w1, e1, Nat.mul_one]; rfl), by omega, ?_⟩
      refine ⟨i + 1, rfl, by omega, by simp [T.get_set, g53], by simp [T.get_set], by simp [T.get_set, g0, g0', g00], by simp [T.get_set, g8], hn, hc, ?_⟩
      rw [htake, incs_snoc, if_pos hz]
      exact hb
    · rw [slotP, if_neg hz] at e1
      have c1 := refs_cell hb hz
      have hrt := rf_le_total (incs S (kids.take i)) x
      have htl : (kids.take i).length ≤ 8 := by rw [List.length_take]; omega
      have w2 : IntKind.i64.wrap (((rf (incs S (kids.take i)) x : Nat) : Int) + 1) = ((rf (incs S (kids.take i)) x + 1 : Nat) : Int) := by rw [wrap_id (by omega) (by omega)]; simp
      have e2 : h.write (b, (x - 1).toNat * 26 + 25) [.int .i64 ((rf (incs S (kids.take i)) x + 1 : Nat) : Int)] = some (h.put b ⟨(inc (incs S (kids.take i)) x).flatMap slotC, .grown 26⟩) := upd_write hb hz (· + 1)
      refine ⟨8 - (i + 1), _, _, (by simp (maxSteps := 4000000) only [evalT_fn, BK.hid, cond_true, cond_false, guess0, List.tail_nil, List.headD_nil, evalS, evalOps, evalOp, evalO, wantedA, opd, opds, optOpd, optInt, putO, frameOf, T.get_set, T.get_nil, Option.map_some, Option.map_none, Nat.reduceEqDiff, if_true, if_false, reduceIte, reduceCtorEq, Nat.reduceAdd, resA, oneOrTuple, binA, binInt, eqA, lenA, capA, unA, partA, partsA, fillA_nil, sliceA, bounds_none, bounds_lo, bounds_hi, bounds_lohi, evalDreg_false, List.take_succ_cons, List.take_zero, List.take_nil, List.drop_zero, List.drop_succ_cons, List.drop_nil, AV.beq, eq_self, hoist, evalD, O.cls, readsOk, List.tail_cons, List.headD_cons, List.nil_append, List.cons_append, List.getLast?_cons_cons, List.getLast?_singleton, Nat.sub_zero, Int.toNat_natCast, ite_self, Nat.add_zero, Nat.zero_add, Nat.zero_mul, Option.isNone_none, Option.isNone_some, Option.isSome_none, Option.isSome_some, Int.reduceBEq, Int.reduceBNe, Int.reduceLT, Int.reduceLE, Int.reduceGT, Int.reduceGE, Int.reduceEq, decide_true, decide_false, Bool.not_true, Bool.not_false, Int.reduceMul, Int.reduceAdd, Int.reduceSub, Int.reduceToNat, Nat.reduceMul, Nat.reduceSub, Nat.reduceLT, Nat.reduceLeDiff, beq_self_eq_true, bne_self_eq_false, Bool.true_beq, Bool.false_beq, ne_eq, not_true_eq_false, not_false_eq_true, Bool.false_eq_true, Bool.or_self, or_self, AV.cells, AV.one, List.all_cons, List.all_nil, Bool.and_true, Bool.true_and, List.length_cons, List.length_nil, splice, List.set_cons_zero, List.set_cons_succ, Nat.le_refl, Nat.reduceLeDiff, iter_succ, readA, readK, loadA, List.getElem?_cons_zero, List.getElem?_cons_succ, Bool.and_self, and_self, and_true, true_and, s15_l1, g53, g54, g0', g55, b1, p1, w1, e1, c1, w2, e2, Nat.mul_one]; rfl), by omega, ?_⟩
      refine ⟨i + 1, rfl, by omega, by simp [T.get_set, g53], by simp [T.get_set], by simp [T.get_set, g0, g0', g00], by simp [T.get_set, g8], by simpa using hn, fun c hcb => ?_, ?_⟩
      · rw [Hp.get_put, if_neg hcb]; exact hc c hcb
      · rw [htake, incs_snoc, if_neg hz, Hp.get_put, if_pos rfl]
  · right
    have g55 : decide ((i : Int) < 8) = false := by simp; omega
    obtain rfl : i = 8 := by omega
    rw [List.take_of_length_le (by omega)] at hb
    exact ⟨_, _, h, (by simp (maxSteps := 4000000) only [evalT_fn, BK.hid, cond_true, cond_false, guess0, List.tail_nil, List.headD_nil, evalS, evalOps, evalOp, evalO, wantedA, opd, opds, optOpd, optInt, putO, frameOf, T.get_set, T.get_nil, Option.map_some, Option.map_none, Nat.reduceEqDiff, if_true, if_false, reduceIte, reduceCtorEq, Nat.reduceAdd, resA, oneOrTuple, binA, binInt, eqA, lenA, capA, unA, partA, partsA, fillA_nil, sliceA, bounds_none, bounds_lo, bounds_hi, bounds_lohi, evalDreg_false, List.take_succ_cons, List.take_zero, List.take_nil, List.drop_zero, List.drop_succ_cons, List.drop_nil, AV.beq, eq_self, hoist, evalD, O.cls, readsOk, List.tail_cons, List.headD_cons, List.nil_append, List.cons_append, List.getLast?_cons_cons, List.getLast?_singleton, Nat.sub_zero, Int.toNat_natCast, ite_self, Nat.add_zero, Nat.zero_add, Nat.zero_mul, Option.isNone_none, Option.isNone_some, Option.isSome_none, Option.isSome_some, Int.reduceBEq, Int.reduceBNe, Int.reduceLT, Int.reduceLE, Int.reduceGT, Int.reduceGE, Int.reduceEq, decide_true, decide_false, Bool.not_true, Bool.not_false, Int.reduceMul, Int.reduceAdd, Int.reduceSub, Int.reduceToNat, Nat.reduceMul, Nat.reduceSub, Nat.reduceLT, Nat.reduceLeDiff, beq_self_eq_true, bne_self_eq_false, Bool.true_beq, Bool.false_beq, ne_eq, not_true_eq_false, not_false_eq_true, Bool.false_eq_true, Bool.or_self, or_self, AV.cells, AV.one, List.all_cons, List.all_nil, Bool.and_true, Bool.true_and, List.length_cons, List.length_nil, splice, List.set_cons_zero, List.set_cons_succ, Nat.le_refl, Nat.reduceLeDiff, iter_succ, readA, readK, loadA, List.getElem?_cons_zero, List.getElem?_cons_succ, Bool.and_self, and_self, and_true, true_and, s15_l1, g54, g55]; rfl), by simp, rfl, by simp [T.get_set, g8], hn, hc, hb⟩

/-- What is behind the check: the place, the node, the counts. -/
theorem make_end {n' : Nat} {h : Hp} {fr : Fr} {a x : Nat} {most : Int} {S : St} {bs fs : List Nat} {m : Nd} (hk : 8 < k) (A : AAt h a most S bs fs) (hS : S.length + 1 < 1000000) (htot : total S + 10 < 1000000000) (g0 : fr.get 0 = some (.ptr (some (a, 0)))) (g3 : fr.get 3 = some (.ptr (some (x, 0)))) (hx : h.get x = some ⟨nodeC m, .own⟩) (hxl : x < h.next) (hxa : x ∉ a :: (bs ++ fs)) :
    ∃ fr' h' id S1 b', evalS (evalT F2 k) k (.seq kA5.fst (.seq kA6.fst (.seq (.seq kA7.fst.fst (.block 2 (.loop s15_l1))) kA8))) fr h = some (.ret, fr', h') ∧ fr'.get 4 = some (.int .i64 id) ∧ fr'.get 5 = some (.int .i64 0) ∧
      NewAt S id m S1 ∧ AAt h' a most (incs S1 m.kids) [b'] fs ∧ Kept h h' (a :: (bs ++ fs)) ∧ (b' ∈ bs ∨ h.next ≤ b') := by
  obtain ⟨⟨sl, fl, hA1, hS1, hF1⟩, hnd, hlt, hSl⟩ := A
  have ha := hlt a (by simp)
  -- the place
  obtain ⟨id, h3, b', i, S2, fl', ep, hid, hi, g3a, g3b, hkp, hb', hfl', hnew⟩ : ∃ (id : Int) (h3 : Hp) (b' i : Nat) (S2 : St) (fl' : AV), evalFn F2 k 50 [.ptr (some (a, 0))] h = some (.int .i64 id, h3) ∧ id = (i : Int) + 1 ∧ i < S2.length ∧
      h3.get a = some ⟨[.int .i64 most, .slice (some (b', 0)) S2.length (.more 26), fl'], .own⟩ ∧ h3.get b' = some ⟨S2.flatMap slotC, .grown 26⟩ ∧ Kept h h3 (a :: bs) ∧ ((b' ∈ bs ∧ h3.next = h.next) ∨ (h.next ≤ b' ∧ b' < h3.next)) ∧ FreeAt h fl' (freeOf (S2.set i (m, 1))) fs ∧ NewAt S id m (S2.set i (m, 1)) := by
    match fs, hF1 with
    | [], ⟨e1, e2⟩ =>
      subst e2
      obtain ⟨h3, ep, q1, q2, q3, q4⟩ := place_end (n := k) (by omega) hA1 hS1 (by omega) ha (fun b hb => ⟨hlt b (by simp [hb]), fun e => by subst e; simp at hnd; exact hnd.1 hb⟩)
      have hset : (S ++ [(zNd, 0)]).set S.length (m, 1) = S ++ [(m, 1)] := by rw [List.set_append_right _ _ (Nat.le_refl _)]; simp
      refine ⟨_, h3, h.next + 1, S.length, S ++ [(zNd, 0)], .slice none 0 (.known 0), ep, rfl, by simp, by rw [q1]; simp, q2, q4, .inr ⟨by omega, by omega⟩, ?_, ?_⟩
      · rw [hset]; exact ⟨freeOf_push S m e1, rfl⟩
      · rw [hset]; exact .inl ⟨e1, rfl, rfl⟩
    | [f], ⟨e1, rest, e2⟩ =>
      subst e1
      rcases Nat.eq_zero_or_pos (freeOf S).length with hz | hpos
      · have hnil : freeOf S = [] := List.length_eq_zero_iff.1 hz
        rw [hz] at hA1
        obtain ⟨h3, ep, q1, q2, q3, q4⟩ := place_end (n := k) (by omega) hA1 hS1 (by omega) ha (fun b hb => ⟨hlt b (by simp [hb]), fun e => by subst e; simp at hnd; exact hnd.1.1 hb⟩)
        have hset : (S ++ [(zNd, 0)]).set S.length (m, 1) = S ++ [(m, 1)] := by rw [List.set_append_right _ _ (Nat.le_refl _)]; simp
        refine ⟨_, h3, h.next + 1, S.length, S ++ [(zNd, 0)], .slice (some (f, 0)) 0 (.more 1), ep, rfl, by simp, by rw [q1]; simp, q2, q4, .inr ⟨by omega, by omega⟩, ?_, ?_⟩
        · rw [hset, freeOf_push S m hnil]; exact ⟨rfl, rest, by rw [e2, hnil]⟩
        · rw [hset]; exact .inl ⟨hnil, rfl, rfl⟩
      · obtain ⟨q, hq⟩ : ∃ q, (freeOf S).length = q + 1 := ⟨(freeOf S).length - 1, by omega⟩
        have hidq := List.getElem?_eq_getElem (l := freeOf S) (show q < (freeOf S).length by omega)
        generalize (freeOf S)[q]'(by omega) = id at hidq
        have hmem := List.mem_of_getElem? hidq
        have hmin := freeOf_last hq hidq
        obtain ⟨z1, z2, z3⟩ := mem_freeOf.1 hmem
        rw [hq] at hA1
        have hfl := freeOf_length S
        have ep := place_free (n := k) (by omega) hA1 e2 hq (by omega) id hidq
        obtain ⟨b, rfl, rfl, hb⟩ := slots_block hS1 (i := (id - 1).toNat) (by omega)
        have hff := freeOf_fill S m hmem hmin
        have hlf : (freeOf (S.set (id - 1).toNat (m, 1))).length = q := by
          have := congrArg List.length hff
          rw [hq, List.length_append, List.length_singleton] at this; omega
        simp only [List.cons_append, List.nil_append, List.nodup_cons, List.mem_cons, not_or] at hnd
        refine ⟨id, _, b, (id - 1).toNat, S, _, ep, by omega, by omega, by rw [Hp.get_put, if_pos rfl], by rw [Hp.get_put, if_neg (fun e => hnd.1.1 e.symm)]; exact hb, ⟨by simp, fun c _ hc => ?_⟩, .inl ⟨by simp, by simp⟩, ⟨by rw [hlf], id :: .nil |>.map (AV.int .i64) |> (· ++ rest), ?_⟩, .inr ⟨hmem, hmin, rfl⟩⟩
        · simp only [List.mem_cons, not_or] at hc
          rw [Hp.get_put, if_neg hc.1]
        · rw [e2]
          conv => lhs; rw [hff]
          simp
  have hxb : x ∉ a :: bs := fun hh => hxa (by simp only [List.mem_cons, List.mem_append] at hh ⊢; exact hh.imp (fun e => e) .inl)
  have hx3 : h3.get x = some ⟨nodeC m, .own⟩ := by rw [hkp.2 x hxl hxb]; exact hx
  have hxb' : x ≠ b' := by
    rintro rfl
    rcases hb' with ⟨e, _⟩ | ⟨e, _⟩
    · exact hxb (by simp [e])
    · omega
  have hab' : a ≠ b' := by
    rintro rfl
    rcases hb' with ⟨e, _⟩ | ⟨e, _⟩
    · simp only [List.cons_append, List.nodup_cons, List.mem_append, not_or] at hnd; exact hnd.1.1 e
    · omega
  have hbfs : b' ∉ fs := fun hh => by
    rcases hb' with ⟨e, _⟩ | ⟨e, _⟩
    · simp only [List.cons_append, List.nodup_cons] at hnd
      exact (List.nodup_append.1 hnd.2).2.2 _ e _ hh rfl
    · have := hlt b' (by simp [hh]); omega
  obtain ⟨hntot, hnlen⟩ := new_total hnew
  simp only [List.length_set] at hnlen
  obtain ⟨fr1, e5, s8, k5⟩ := k5_ok (F := F2) (k := k) (h := h) (fr := fr) g0 ep
  rw [hid] at s8
  have w1 := slot_write (y := (m, 1)) g3b hi
  obtain ⟨fr2, e6, k6⟩ := k6_ok (k := k) (h := h3) (fr := fr1) (call := evalT F2 k) (by rw [k5 0 (by omega)]; exact g0) (by rw [k5 3 (by omega)]; exact g3) s8 hi (by omega) g3a hx3 w1
  have hx4 : (h3.put b' ⟨(S2.set i (m, 1)).flatMap slotC, .grown 26⟩).get x = some ⟨nodeC m, .own⟩ := by rw [Hp.get_put, if_neg hxb']; exact hx3
  obtain ⟨fr3, e7, t53, t54, k7⟩ := k7_ok (k := k) (h := h3.put b' ⟨(S2.set i (m, 1)).flatMap slotC, .grown 26⟩) (fr := fr2) (call := evalT F2 k) (by rw [k6 3 (by omega), k5 3 (by omega)]; exact g3) hx4
  have t0 : fr3.get 0 = some (.ptr (some (a, 0))) := by rw [k7 0 (by omega), k6 0 (by omega), k5 0 (by omega)]; exact g0
  have t8 : fr3.get 8 = some (.int .i64 id) := by rw [k7 8 (by omega), k6 8 (by omega), s8, hid]
  have hA4 : (h3.put b' ⟨(S2.set i (m, 1)).flatMap slotC, .grown 26⟩).get a = some ⟨[.int .i64 most, .slice (some (b', 0)) (S2.set i (m, 1)).length (.more 26), fl'], .own⟩ := by rw [Hp.get_put, if_neg hab', g3a]; simp
  obtain ⟨xx, fr4, h4, hit, _, rfl, u8, hn4, hc4, hb4⟩ := iter_inv (body := evalS (evalT F2 k) k s15_l1) (IncI m.kids (S2.set i (m, 1)) b' fr3 (h3.put b' ⟨(S2.set i (m, 1)).flatMap slotC, .grown 26⟩)) _
    (fun mm fr' h' I => inc_step (by omega) m.hk hab' (by simp; omega) (by omega) t0 hA4 mm fr' h' I) k 8 fr3 _ hk ⟨0, rfl, by omega, t53, t54, rfl, rfl, rfl, fun _ _ => rfl, by rw [Hp.get_put, if_pos rfl]; rfl⟩
  obtain ⟨fr5, e8, v4, v5⟩ := k8_ok (k := k) (h := h4) (fr := fr4) (call := evalT F2 k) (by rw [u8]; exact t8)
  obtain ⟨j1, j2, j3⟩ := incs_facts (S2.set i (m, 1)) m.kids
  have hn34 : h4.next = h3.next := by rw [hn4]; simp
  refine ⟨fr5, h4, id, S2.set i (m, 1), b', ?_, v4, v5, hnew, ⟨⟨_, fl', ?_, ⟨rfl, hb4⟩, ?_⟩, ?_, ?_, by rw [j1]; simp; omega⟩, ⟨by rw [hn34]; exact hkp.1, fun c hc hcl => ?_⟩, ?_⟩
  · simp only [evalS, e5, e6, e7, hit, if_true, e8]
  · rw [hc4 a hab', hA4, j1]
  · rw [freeOf_same j1 (fun y => j3 y)]
    refine free_congr hfl' fun f hf => ?_
    have hfb : f ≠ b' := fun e => hbfs (e ▸ hf)
    rw [hc4 f hfb, Hp.get_put, if_neg hfb]
    refine hkp.2 f (hlt f (by simp [hf])) fun hh => ?_
    simp only [List.cons_append, List.nodup_cons, List.mem_append, not_or] at hnd
    rcases List.mem_cons.1 hh with e | e
    · exact hnd.1.2 (e ▸ hf)
    · exact (List.nodup_append.1 hnd.2).2.2 _ e _ hf rfl
  · simp only [List.cons_append, List.nil_append, List.nodup_cons, List.mem_cons, not_or]
    simp only [List.cons_append, List.nodup_cons, List.mem_append, not_or] at hnd
    exact ⟨⟨hab', hnd.1.2⟩, hbfs, (List.nodup_append.1 hnd.2).2.1⟩
  · intro c hc
    simp only [List.cons_append, List.nil_append, List.mem_cons] at hc
    have h34 := hkp.1
    rcases hc with rfl | rfl | hc
    · omega
    · rcases hb' with ⟨e, e2⟩ | ⟨_, e⟩
      · have := hlt c (by simp [e]); omega
      · omega
    · have := hlt c (by simp [hc]); omega
  · simp only [List.mem_cons, List.mem_append, not_or] at hcl
    have hcb : c ≠ b' := by
      rintro rfl
      rcases hb' with ⟨e, _⟩ | ⟨e, _⟩
      · exact hcl.2.1 e
      · omega
    rw [hc4 c hcb, Hp.get_put, if_neg hcb]
    exact hkp.2 c hc (by simp only [List.mem_cons, not_or]; exact ⟨hcl.1, hcl.2.1⟩)
  · rcases hb' with ⟨e, _⟩ | ⟨e, _⟩
    · exact .inl e
    · exact .inr e

end
end Go.Proofs.Ytchffjnmkpedkaa
