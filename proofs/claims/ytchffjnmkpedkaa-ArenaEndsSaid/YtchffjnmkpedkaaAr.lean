/-
  The arena, and what its functions come to: what lies in memory, and each function once. Own work of this session.
-/
import Derived.Test.YtchffjnmkpedkaaPm
import Derived.Test.YtchffjnmkpedkaaPb
set_option linter.unusedSectionVars false
set_option linter.unusedSimpArgs false
set_option linter.unusedVariables false
namespace Go.Proofs.Ytchffjnmkpedkaa
set_option linter.unusedSectionVars false
open Go.Lite Go.RowKit Go.Lite.Arena
set_option maxHeartbeats 4000000
set_option maxRecDepth 10000
set_option linter.unusedSimpArgs false
set_option linter.unusedVariables false
attribute [local simp] BK.hid

/-! ### What lies where -/
def entC (v : Int × Bool) : List AV := [.int .i64 v.1, .bool v.2]
def nodeC (n : Nd) : List AV := .bool n.leaf :: (n.kids.map (AV.int .i64) ++ n.vals.flatMap entC)
def slotC (x : Nd × Nat) : List AV := nodeC x.1 ++ [.int .i64 x.2]

theorem entC_len (v : Int × Bool) : (entC v).length = 2 := rfl
theorem nodeC_len (n : Nd) : (nodeC n).length = 25 := by simp only [nodeC, List.length_cons, List.length_append, List.length_map, n.hk, flat_length entC_len, n.hv]
theorem slotC_len (x : Nd × Nat) : (slotC x).length = 26 := by simp [slotC, nodeC_len]

/-- How often a node is asked for: its last cell. -/
theorem slotC_refs (x : Nd × Nat) : (slotC x)[25]? = some (.int .i64 x.2) := by
  unfold slotC
  rw [List.getElem?_append_right (by rw [nodeC_len]; omega)]
  simp [nodeC_len]

theorem slotC_set (x : Nd × Nat) (r : Nat) : slotC (x.1, r) = splice (slotC x) 25 [.int .i64 r] := by
  simp only [slotC, splice]
  rw [List.set_append_right _ _ (by rw [nodeC_len]; omega)]
  simp [nodeC_len]

/-- The places, in memory. -/
def SlotsAt (h : Hp) (sl : AV) (S : St) : List Nat → Prop
  | [] => S = [] ∧ sl = .slice none 0 (.known 0)
  | [b] => sl = .slice (some (b, 0)) S.length (.more 26) ∧ h.get b = some ⟨S.flatMap slotC, .grown 26⟩
  | _ => False

theorem F2_slot : F2 48 = some (.text s48) := rfl

theorem slot_out {n : Nat} (hn : 0 < n) {h : Hp} {a : Nat} {most sl fr : AV} {S : St} {fs : List Nat} (hA : h.get a = some ⟨[most, sl, fr], .own⟩) (hS : SlotsAt h sl S fs) (id : Int) (hlen : S.length < 1000000) (hid : id < 1 ∨ (S.length : Int) < id) :
    evalFn F2 n 48 [.ptr (some (a, 0)), .int .i64 id] h = some (.ptr none, h) := by
  obtain ⟨k, rfl⟩ : ∃ k, n = k + 1 := ⟨n - 1, by omega⟩
  have hc : h.cell (a, 1) = some sl := by simp [Hp.cell, hA]
  have hsl : ∃ base cap, sl = .slice base S.length cap := by
    match fs, hS with
    | [], ⟨e, f⟩ => exact ⟨none, .known 0, by rw [f, e]; rfl⟩
    | [b], ⟨e, _⟩ => exact ⟨_, _, e⟩
  obtain ⟨base, cap, rfl⟩ := hsl
  by_cases h1 : id < 1
  · have g1 : decide (id < 1) = true := by simp [h1]
    simp (maxSteps := 4000000) only [evalFn_text F2_slot, evalT_fn, BK.hid, cond_true, cond_false, guess0, List.tail_nil, List.headD_nil, evalS, evalOps, evalOp, evalO, wantedA, opd, opds, optOpd, optInt, putO, frameOf, T.get_set, T.get_nil, Option.map_some, Option.map_none, Nat.reduceEqDiff, if_true, if_false, reduceIte, reduceCtorEq, Nat.reduceAdd, resA, oneOrTuple, binA, binInt, eqA, lenA, capA, unA, partA, partsA, fillA, sliceA, bounds_none, bounds_lo, bounds_hi, bounds_lohi, evalDreg_false, List.take_succ_cons, List.take_zero, List.take_nil, List.drop_zero, List.drop_succ_cons, List.drop_nil, AV.beq, eq_self, hoist, evalD, O.cls, readsOk, List.tail_cons, List.headD_cons, List.nil_append, List.cons_append, List.getLast?_cons_cons, List.getLast?_singleton, Nat.sub_zero, Int.toNat_natCast, ite_self, Nat.add_zero, Nat.zero_add, Nat.zero_mul, Option.isNone_none, Option.isNone_some, Option.isSome_none, Option.isSome_some, Int.reduceBEq, Int.reduceBNe, Int.reduceLT, Int.reduceLE, Int.reduceGT, Int.reduceGE, Int.reduceEq, decide_true, decide_false, Bool.not_true, Bool.not_false, Int.reduceMul, Int.reduceAdd, Int.reduceSub, Int.reduceToNat, Nat.reduceMul, Nat.reduceSub, Nat.reduceLT, Nat.reduceLeDiff, beq_self_eq_true, bne_self_eq_false, Bool.true_beq, Bool.false_beq, ne_eq, not_true_eq_false, not_false_eq_true, Bool.false_eq_true, Bool.or_self, or_self, AV.cells, AV.one, List.all_cons, List.all_nil, Bool.and_true, Bool.true_and, List.length_cons, List.length_nil, splice, List.set_cons_zero, List.set_cons_succ, Nat.le_refl, Nat.reduceLeDiff, iter_succ, readA, readK, loadA, List.getElem?_cons_zero, List.getElem?_cons_succ, Bool.and_self, and_self, and_true, true_and, s48, g1]
  · have g1 : decide (id < 1) = false := by simp [h1]
    have g2 : decide (id > (S.length : Int)) = true := by simp; omega
    simp (maxSteps := 4000000) only [evalFn_text F2_slot, evalT_fn, BK.hid, cond_true, cond_false, guess0, List.tail_nil, List.headD_nil, evalS, evalOps, evalOp, evalO, wantedA, opd, opds, optOpd, optInt, putO, frameOf, T.get_set, T.get_nil, Option.map_some, Option.map_none, Nat.reduceEqDiff, if_true, if_false, reduceIte, reduceCtorEq, Nat.reduceAdd, resA, oneOrTuple, binA, binInt, eqA, lenA, capA, unA, partA, partsA, fillA, sliceA, bounds_none, bounds_lo, bounds_hi, bounds_lohi, evalDreg_false, List.take_succ_cons, List.take_zero, List.take_nil, List.drop_zero, List.drop_succ_cons, List.drop_nil, AV.beq, eq_self, hoist, evalD, O.cls, readsOk, List.tail_cons, List.headD_cons, List.nil_append, List.cons_append, List.getLast?_cons_cons, List.getLast?_singleton, Nat.sub_zero, Int.toNat_natCast, ite_self, Nat.add_zero, Nat.zero_add, Nat.zero_mul, Option.isNone_none, Option.isNone_some, Option.isSome_none, Option.isSome_some, Int.reduceBEq, Int.reduceBNe, Int.reduceLT, Int.reduceLE, Int.reduceGT, Int.reduceGE, Int.reduceEq, decide_true, decide_false, Bool.not_true, Bool.not_false, Int.reduceMul, Int.reduceAdd, Int.reduceSub, Int.reduceToNat, Nat.reduceMul, Nat.reduceSub, Nat.reduceLT, Nat.reduceLeDiff, beq_self_eq_true, bne_self_eq_false, Bool.true_beq, Bool.false_beq, ne_eq, not_true_eq_false, not_false_eq_true, Bool.false_eq_true, Bool.or_self, or_self, AV.cells, AV.one, List.all_cons, List.all_nil, Bool.and_true, Bool.true_and, List.length_cons, List.length_nil, splice, List.set_cons_zero, List.set_cons_succ, Nat.le_refl, Nat.reduceLeDiff, iter_succ, readA, readK, loadA, List.getElem?_cons_zero, List.getElem?_cons_succ, Bool.and_self, and_self, and_true, true_and, s48, g1, hc, g2]

theorem slot_in {n : Nat} (hn : 0 < n) {h : Hp} {a b : Nat} {most fr : AV} {S : St} (hA : h.get a = some ⟨[most, .slice (some (b, 0)) S.length (.more 26), fr], .own⟩) (hS : h.get b = some ⟨S.flatMap slotC, .grown 26⟩) (id : Int) (hlen : S.length < 1000000) (h1 : 1 ≤ id) (h2 : id ≤ S.length) (x : Nd × Nat) (hx : S[(id - 1).toNat]? = some x) :
    evalFn F2 n 48 [.ptr (some (a, 0)), .int .i64 id] h = some (.ptr (if x.2 = 0 then none else some (b, (id - 1).toNat * 26)), h) := by
  obtain ⟨k, rfl⟩ : ∃ k, n = k + 1 := ⟨n - 1, by omega⟩
  have hc : h.cell (a, 1) = some (.slice (some (b, 0)) S.length (.more 26)) := by simp [Hp.cell, hA]
  have g1 : decide (id < 1) = false := by simp; omega
  have g2 : decide (id > (S.length : Int)) = false := by simp; omega
  have w1 : IntKind.i64.wrap (id - 1) = id - 1 := wrap_id (by omega) (by omega)
  have b1 : 0 ≤ id - 1 ∧ id - 1 < (S.length : Int) := by omega
  have hr : h.cell (b, (id - 1).toNat * 26 + 25) = some (.int .i64 x.2) := by
    simp only [Hp.cell, hS]
    rw [flat_get slotC_len S _ 25 (by omega), hx]
    exact slotC_refs x
  by_cases h0 : x.2 = 0
  · have g3 : ((x.2 : Int) == 0) = true := by simp [h0]
    simp (maxSteps := 4000000) only [evalFn_text F2_slot, evalT_fn, BK.hid, cond_true, cond_false, guess0, List.tail_nil, List.headD_nil, evalS, evalOps, evalOp, evalO, wantedA, opd, opds, optOpd, optInt, putO, frameOf, T.get_set, T.get_nil, Option.map_some, Option.map_none, Nat.reduceEqDiff, if_true, if_false, reduceIte, reduceCtorEq, Nat.reduceAdd, resA, oneOrTuple, binA, binInt, eqA, lenA, capA, unA, partA, partsA, fillA, sliceA, bounds_none, bounds_lo, bounds_hi, bounds_lohi, evalDreg_false, List.take_succ_cons, List.take_zero, List.take_nil, List.drop_zero, List.drop_succ_cons, List.drop_nil, AV.beq, eq_self, hoist, evalD, O.cls, readsOk, List.tail_cons, List.headD_cons, List.nil_append, List.cons_append, List.getLast?_cons_cons, List.getLast?_singleton, Nat.sub_zero, Int.toNat_natCast, ite_self, Nat.add_zero, Nat.zero_add, Nat.zero_mul, Option.isNone_none, Option.isNone_some, Option.isSome_none, Option.isSome_some, Int.reduceBEq, Int.reduceBNe, Int.reduceLT, Int.reduceLE, Int.reduceGT, Int.reduceGE, Int.reduceEq, decide_true, decide_false, Bool.not_true, Bool.not_false, Int.reduceMul, Int.reduceAdd, Int.reduceSub, Int.reduceToNat, Nat.reduceMul, Nat.reduceSub, Nat.reduceLT, Nat.reduceLeDiff, beq_self_eq_true, bne_self_eq_false, Bool.true_beq, Bool.false_beq, ne_eq, not_true_eq_false, not_false_eq_true, Bool.false_eq_true, Bool.or_self, or_self, AV.cells, AV.one, List.all_cons, List.all_nil, Bool.and_true, Bool.true_and, List.length_cons, List.length_nil, splice, List.set_cons_zero, List.set_cons_succ, Nat.le_refl, Nat.reduceLeDiff, iter_succ, readA, readK, loadA, List.getElem?_cons_zero, List.getElem?_cons_succ, Bool.and_self, and_self, and_true, true_and, s48, g1, hc, g2, w1, b1, hr, g3, if_pos h0]
  · have g3 : ((x.2 : Int) == 0) = false := by simp [h0]
    simp (maxSteps := 4000000) only [evalFn_text F2_slot, evalT_fn, BK.hid, cond_true, cond_false, guess0, List.tail_nil, List.headD_nil, evalS, evalOps, evalOp, evalO, wantedA, opd, opds, optOpd, optInt, putO, frameOf, T.get_set, T.get_nil, Option.map_some, Option.map_none, Nat.reduceEqDiff, if_true, if_false, reduceIte, reduceCtorEq, Nat.reduceAdd, resA, oneOrTuple, binA, binInt, eqA, lenA, capA, unA, partA, partsA, fillA, sliceA, bounds_none, bounds_lo, bounds_hi, bounds_lohi, evalDreg_false, List.take_succ_cons, List.take_zero, List.take_nil, List.drop_zero, List.drop_succ_cons, List.drop_nil, AV.beq, eq_self, hoist, evalD, O.cls, readsOk, List.tail_cons, List.headD_cons, List.nil_append, List.cons_append, List.getLast?_cons_cons, List.getLast?_singleton, Nat.sub_zero, Int.toNat_natCast, ite_self, Nat.add_zero, Nat.zero_add, Nat.zero_mul, Option.isNone_none, Option.isNone_some, Option.isSome_none, Option.isSome_some, Int.reduceBEq, Int.reduceBNe, Int.reduceLT, Int.reduceLE, Int.reduceGT, Int.reduceGE, Int.reduceEq, decide_true, decide_false, Bool.not_true, Bool.not_false, Int.reduceMul, Int.reduceAdd, Int.reduceSub, Int.reduceToNat, Nat.reduceMul, Nat.reduceSub, Nat.reduceLT, Nat.reduceLeDiff, beq_self_eq_true, bne_self_eq_false, Bool.true_beq, Bool.false_beq, ne_eq, not_true_eq_false, not_false_eq_true, Bool.false_eq_true, Bool.or_self, or_self, AV.cells, AV.one, List.all_cons, List.all_nil, Bool.and_true, Bool.true_and, List.length_cons, List.length_nil, splice, List.set_cons_zero, List.set_cons_succ, Nat.le_refl, Nat.reduceLeDiff, iter_succ, readA, readK, loadA, List.getElem?_cons_zero, List.getElem?_cons_succ, Bool.and_self, and_self, and_true, true_and, s48, g1, hc, g2, w1, b1, hr, g3, if_neg h0]

/-! ### The places, and the functions that look at one -/
/-- What 'slot' hands back: where the node lies. -/
def slotP (b : Nat) (S : St) (id : Int) : AV := .ptr (if rf S id = 0 then none else some (b, (id - 1).toNat * 26))

theorem slot_ok {n : Nat} (hn : 0 < n) {h : Hp} {a : Nat} {most sl fr : AV} {S : St} {bs : List Nat} (hA : h.get a = some ⟨[most, sl, fr], .own⟩) (hS : SlotsAt h sl S bs) (hlen : S.length < 1000000) (id : Int) :
    evalFn F2 n 48 [.ptr (some (a, 0)), .int .i64 id] h = some (slotP (bs.headD 0) S id, h) := by
  by_cases hid : id < 1 ∨ (S.length : Int) < id
  · rw [slot_out hn hA hS id hlen hid]
    have : rf S id = 0 := by
      unfold rf at?
      split
      · rw [List.getElem?_eq_none (by omega)]; rfl
      · rfl
    simp [slotP, this]
  · have hlt : (id - 1).toNat < S.length := by omega
    match bs, hS with
    | [], ⟨e, _⟩ => subst e; simp at hlt
    | [b], ⟨e, hb⟩ =>
      subst e
      rw [slot_in hn hA hb id hlen (by omega) (by omega) _ (List.getElem?_eq_getElem hlt)]
      have : rf S id = (S[(id - 1).toNat]).2 := by
        unfold rf at?
        rw [if_pos (by omega), List.getElem?_eq_getElem hlt]; rfl
      simp [slotP, this]

theorem rf_pos {S : St} {id : Int} (h : rf S id ≠ 0) : 1 ≤ id ∧ (id - 1).toNat < S.length ∧ ∃ x, S[(id - 1).toNat]? = some x ∧ x.2 = rf S id ∧ at? S id = some x := by
  unfold rf at? at *
  split at h
  · rename_i h1
    cases hq : S[(id - 1).toNat]? with
    | none => rw [hq] at h; exact absurd rfl h
    | some x =>
      refine ⟨h1, ?_, x, rfl, ?_, ?_⟩
      · rcases Nat.lt_or_ge (id - 1).toNat S.length with hh | hh
        · exact hh
        · rw [List.getElem?_eq_none hh] at hq; cases hq
      · rw [if_pos h1]; rfl
      · rw [if_pos h1]
  · exact absurd rfl h

theorem slots_block {h : Hp} {sl : AV} {S : St} {bs : List Nat} (hS : SlotsAt h sl S bs) {i : Nat} (hi : i < S.length) : ∃ b, bs = [b] ∧ sl = .slice (some (b, 0)) S.length (.more 26) ∧ h.get b = some ⟨S.flatMap slotC, .grown 26⟩ := by
  match bs, hS with
  | [], ⟨e, _⟩ => subst e; simp at hi
  | [b], ⟨e, hb⟩ => exact ⟨b, rfl, e, hb⟩

theorem F2_none : F2 49 = some (.text s49) := rfl
theorem F2_refs : F2 22 = some (.text s22) := rfl
theorem F2_used : F2 19 = some (.text s19) := rfl
theorem F2_cap : F2 28 = some (.text s28) := rfl
theorem F2_keep : F2 14 = some (.text s14) := rfl
theorem F2_at : F2 21 = some (.text s21) := rfl

theorem none_ok {n : Nat} (hn : 0 < n) (h : Hp) (a : Nat × Nat) : evalFn F2 n 49 [.ptr (some a)] h = some (.int .i64 10, h) := by
  obtain ⟨k, rfl⟩ : ∃ k, n = k + 1 := ⟨n - 1, by omega⟩
  simp (maxSteps := 4000000) only [evalFn_text F2_none, evalT_fn, BK.hid, cond_true, cond_false, guess0, List.tail_nil, List.headD_nil, evalS, evalOps, evalOp, evalO, wantedA, opd, opds, optOpd, optInt, putO, frameOf, T.get_set, T.get_nil, Option.map_some, Option.map_none, Nat.reduceEqDiff, if_true, if_false, reduceIte, reduceCtorEq, Nat.reduceAdd, resA, oneOrTuple, binA, binInt, eqA, lenA, capA, unA, partA, partsA, fillA, sliceA, bounds_none, bounds_lo, bounds_hi, bounds_lohi, evalDreg_false, List.take_succ_cons, List.take_zero, List.take_nil, List.drop_zero, List.drop_succ_cons, List.drop_nil, AV.beq, eq_self, hoist, evalD, O.cls, readsOk, List.tail_cons, List.headD_cons, List.nil_append, List.cons_append, List.getLast?_cons_cons, List.getLast?_singleton, Nat.sub_zero, Int.toNat_natCast, ite_self, Nat.add_zero, Nat.zero_add, Nat.zero_mul, Option.isNone_none, Option.isNone_some, Option.isSome_none, Option.isSome_some, Int.reduceBEq, Int.reduceBNe, Int.reduceLT, Int.reduceLE, Int.reduceGT, Int.reduceGE, Int.reduceEq, decide_true, decide_false, Bool.not_true, Bool.not_false, Int.reduceMul, Int.reduceAdd, Int.reduceSub, Int.reduceToNat, Nat.reduceMul, Nat.reduceSub, Nat.reduceLT, Nat.reduceLeDiff, beq_self_eq_true, bne_self_eq_false, Bool.true_beq, Bool.false_beq, ne_eq, not_true_eq_false, not_false_eq_true, Bool.false_eq_true, Bool.or_self, or_self, AV.cells, AV.one, List.all_cons, List.all_nil, Bool.and_true, Bool.true_and, List.length_cons, List.length_nil, splice, List.set_cons_zero, List.set_cons_succ, Nat.le_refl, Nat.reduceLeDiff, iter_succ, readA, readK, loadA, List.getElem?_cons_zero, List.getElem?_cons_succ, Bool.and_self, and_self, and_true, true_and, s49]

section
variable {h : Hp} {a : Nat} {most : Int} {sl fl : AV} {S : St} {bs : List Nat}

/-- The count's cell. -/
theorem refs_cell {b : Nat} (hb : h.get b = some ⟨S.flatMap slotC, .grown 26⟩) {id : Int} (h0 : rf S id ≠ 0) : h.cell (b, (id - 1).toNat * 26 + 25) = some (.int .i64 (rf S id)) := by
  obtain ⟨_, _, x, hx, hr, _⟩ := rf_pos h0
  rw [Hp.cell_at hb rfl, flat_get slotC_len S _ 25 (by omega), hx, ← hr]
  exact slotC_refs x

theorem refs_ok {n : Nat} (hn : 1 < n) (hA : h.get a = some ⟨[.int .i64 most, sl, fl], .own⟩) (hS : SlotsAt h sl S bs) (hlen : S.length < 1000000) (id : Int) :
    evalFn F2 n 22 [.ptr (some (a, 0)), .int .i64 id] h = some (.int .i64 (rf S id), h) := by
  obtain ⟨k, rfl⟩ : ∃ k, n = k + 1 := ⟨n - 1, by omega⟩
  have e1 := slot_ok (n := k) (by omega) hA hS hlen id
  by_cases h0 : rf S id = 0
  · rw [slotP, if_pos h0] at e1
    simp (maxSteps := 4000000) only [evalFn_text F2_refs, evalT_fn, BK.hid, cond_true, cond_false, guess0, List.tail_nil, List.headD_nil, evalS, evalOps, evalOp, evalO, wantedA, opd, opds, optOpd, optInt, putO, frameOf, T.get_set, T.get_nil, Option.map_some, Option.map_none, Nat.reduceEqDiff, if_true, if_false, reduceIte, reduceCtorEq, Nat.reduceAdd, resA, oneOrTuple, binA, binInt, eqA, lenA, capA, unA, partA, partsA, fillA, sliceA, bounds_none, bounds_lo, bounds_hi, bounds_lohi, evalDreg_false, List.take_succ_cons, List.take_zero, List.take_nil, List.drop_zero, List.drop_succ_cons, List.drop_nil, AV.beq, eq_self, hoist, evalD, O.cls, readsOk, List.tail_cons, List.headD_cons, List.nil_append, List.cons_append, List.getLast?_cons_cons, List.getLast?_singleton, Nat.sub_zero, Int.toNat_natCast, ite_self, Nat.add_zero, Nat.zero_add, Nat.zero_mul, Option.isNone_none, Option.isNone_some, Option.isSome_none, Option.isSome_some, Int.reduceBEq, Int.reduceBNe, Int.reduceLT, Int.reduceLE, Int.reduceGT, Int.reduceGE, Int.reduceEq, decide_true, decide_false, Bool.not_true, Bool.not_false, Int.reduceMul, Int.reduceAdd, Int.reduceSub, Int.reduceToNat, Nat.reduceMul, Nat.reduceSub, Nat.reduceLT, Nat.reduceLeDiff, beq_self_eq_true, bne_self_eq_false, Bool.true_beq, Bool.false_beq, ne_eq, not_true_eq_false, not_false_eq_true, Bool.false_eq_true, Bool.or_self, or_self, AV.cells, AV.one, List.all_cons, List.all_nil, Bool.and_true, Bool.true_and, List.length_cons, List.length_nil, splice, List.set_cons_zero, List.set_cons_succ, Nat.le_refl, Nat.reduceLeDiff, iter_succ, readA, readK, loadA, List.getElem?_cons_zero, List.getElem?_cons_succ, Bool.and_self, and_self, and_true, true_and, s22, e1, h0, Int.ofNat_zero, Int.natCast_zero]
  · obtain ⟨_, hlt, _⟩ := rf_pos h0
    obtain ⟨b, rfl, rfl, hb⟩ := slots_block hS hlt
    rw [slotP, if_neg h0] at e1
    have e2 := refs_cell hb h0
    simp only [List.headD_cons] at e1
    simp (maxSteps := 4000000) only [evalFn_text F2_refs, evalT_fn, BK.hid, cond_true, cond_false, guess0, List.tail_nil, List.headD_nil, evalS, evalOps, evalOp, evalO, wantedA, opd, opds, optOpd, optInt, putO, frameOf, T.get_set, T.get_nil, Option.map_some, Option.map_none, Nat.reduceEqDiff, if_true, if_false, reduceIte, reduceCtorEq, Nat.reduceAdd, resA, oneOrTuple, binA, binInt, eqA, lenA, capA, unA, partA, partsA, fillA, sliceA, bounds_none, bounds_lo, bounds_hi, bounds_lohi, evalDreg_false, List.take_succ_cons, List.take_zero, List.take_nil, List.drop_zero, List.drop_succ_cons, List.drop_nil, AV.beq, eq_self, hoist, evalD, O.cls, readsOk, List.tail_cons, List.headD_cons, List.nil_append, List.cons_append, List.getLast?_cons_cons, List.getLast?_singleton, Nat.sub_zero, Int.toNat_natCast, ite_self, Nat.add_zero, Nat.zero_add, Nat.zero_mul, Option.isNone_none, Option.isNone_some, Option.isSome_none, Option.isSome_some, Int.reduceBEq, Int.reduceBNe, Int.reduceLT, Int.reduceLE, Int.reduceGT, Int.reduceGE, Int.reduceEq, decide_true, decide_false, Bool.not_true, Bool.not_false, Int.reduceMul, Int.reduceAdd, Int.reduceSub, Int.reduceToNat, Nat.reduceMul, Nat.reduceSub, Nat.reduceLT, Nat.reduceLeDiff, beq_self_eq_true, bne_self_eq_false, Bool.true_beq, Bool.false_beq, ne_eq, not_true_eq_false, not_false_eq_true, Bool.false_eq_true, Bool.or_self, or_self, AV.cells, AV.one, List.all_cons, List.all_nil, Bool.and_true, Bool.true_and, List.length_cons, List.length_nil, splice, List.set_cons_zero, List.set_cons_succ, Nat.le_refl, Nat.reduceLeDiff, iter_succ, readA, readK, loadA, List.getElem?_cons_zero, List.getElem?_cons_succ, Bool.and_self, and_self, and_true, true_and, s22, e1, e2]

theorem cap_ok {n : Nat} (hn : 0 < n) (hA : h.get a = some ⟨[.int .i64 most, sl, fl], .own⟩) : evalFn F2 n 28 [.ptr (some (a, 0))] h = some (.int .i64 most, h) := by
  obtain ⟨k, rfl⟩ : ∃ k, n = k + 1 := ⟨n - 1, by omega⟩
  have hc : h.cell (a, 0) = some (.int .i64 most) := by simp [Hp.cell, hA]
  simp (maxSteps := 4000000) only [evalFn_text F2_cap, evalT_fn, BK.hid, cond_true, cond_false, guess0, List.tail_nil, List.headD_nil, evalS, evalOps, evalOp, evalO, wantedA, opd, opds, optOpd, optInt, putO, frameOf, T.get_set, T.get_nil, Option.map_some, Option.map_none, Nat.reduceEqDiff, if_true, if_false, reduceIte, reduceCtorEq, Nat.reduceAdd, resA, oneOrTuple, binA, binInt, eqA, lenA, capA, unA, partA, partsA, fillA, sliceA, bounds_none, bounds_lo, bounds_hi, bounds_lohi, evalDreg_false, List.take_succ_cons, List.take_zero, List.take_nil, List.drop_zero, List.drop_succ_cons, List.drop_nil, AV.beq, eq_self, hoist, evalD, O.cls, readsOk, List.tail_cons, List.headD_cons, List.nil_append, List.cons_append, List.getLast?_cons_cons, List.getLast?_singleton, Nat.sub_zero, Int.toNat_natCast, ite_self, Nat.add_zero, Nat.zero_add, Nat.zero_mul, Option.isNone_none, Option.isNone_some, Option.isSome_none, Option.isSome_some, Int.reduceBEq, Int.reduceBNe, Int.reduceLT, Int.reduceLE, Int.reduceGT, Int.reduceGE, Int.reduceEq, decide_true, decide_false, Bool.not_true, Bool.not_false, Int.reduceMul, Int.reduceAdd, Int.reduceSub, Int.reduceToNat, Nat.reduceMul, Nat.reduceSub, Nat.reduceLT, Nat.reduceLeDiff, beq_self_eq_true, bne_self_eq_false, Bool.true_beq, Bool.false_beq, ne_eq, not_true_eq_false, not_false_eq_true, Bool.false_eq_true, Bool.or_self, or_self, AV.cells, AV.one, List.all_cons, List.all_nil, Bool.and_true, Bool.true_and, List.length_cons, List.length_nil, splice, List.set_cons_zero, List.set_cons_succ, Nat.le_refl, Nat.reduceLeDiff, iter_succ, readA, readK, loadA, List.getElem?_cons_zero, List.getElem?_cons_succ, Bool.and_self, and_self, and_true, true_and, s28, hc]

theorem used_ok {n : Nat} (hn : 0 < n) {b1 b2 : Option (Nat × Nat)} {n1 n2 : Nat} {c1 c2 : Cap} (hA : h.get a = some ⟨[.int .i64 most, .slice b1 n1 c1, .slice b2 n2 c2], .own⟩) (h1 : n1 < 1000000) (h2 : n2 ≤ n1) :
    evalFn F2 n 19 [.ptr (some (a, 0))] h = some (.int .i64 ((n1 : Int) - n2), h) := by
  obtain ⟨k, rfl⟩ : ∃ k, n = k + 1 := ⟨n - 1, by omega⟩
  have hc1 : h.cell (a, 1) = some (.slice b1 n1 c1) := by simp [Hp.cell, hA]
  have hc2 : h.cell (a, 2) = some (.slice b2 n2 c2) := by simp [Hp.cell, hA]
  have w1 : IntKind.i64.wrap ((n1 : Int) - n2) = n1 - n2 := wrap_id (by omega) (by omega)
  simp (maxSteps := 4000000) only [evalFn_text F2_used, evalT_fn, BK.hid, cond_true, cond_false, guess0, List.tail_nil, List.headD_nil, evalS, evalOps, evalOp, evalO, wantedA, opd, opds, optOpd, optInt, putO, frameOf, T.get_set, T.get_nil, Option.map_some, Option.map_none, Nat.reduceEqDiff, if_true, if_false, reduceIte, reduceCtorEq, Nat.reduceAdd, resA, oneOrTuple, binA, binInt, eqA, lenA, capA, unA, partA, partsA, fillA, sliceA, bounds_none, bounds_lo, bounds_hi, bounds_lohi, evalDreg_false, List.take_succ_cons, List.take_zero, List.take_nil, List.drop_zero, List.drop_succ_cons, List.drop_nil, AV.beq, eq_self, hoist, evalD, O.cls, readsOk, List.tail_cons, List.headD_cons, List.nil_append, List.cons_append, List.getLast?_cons_cons, List.getLast?_singleton, Nat.sub_zero, Int.toNat_natCast, ite_self, Nat.add_zero, Nat.zero_add, Nat.zero_mul, Option.isNone_none, Option.isNone_some, Option.isSome_none, Option.isSome_some, Int.reduceBEq, Int.reduceBNe, Int.reduceLT, Int.reduceLE, Int.reduceGT, Int.reduceGE, Int.reduceEq, decide_true, decide_false, Bool.not_true, Bool.not_false, Int.reduceMul, Int.reduceAdd, Int.reduceSub, Int.reduceToNat, Nat.reduceMul, Nat.reduceSub, Nat.reduceLT, Nat.reduceLeDiff, beq_self_eq_true, bne_self_eq_false, Bool.true_beq, Bool.false_beq, ne_eq, not_true_eq_false, not_false_eq_true, Bool.false_eq_true, Bool.or_self, or_self, AV.cells, AV.one, List.all_cons, List.all_nil, Bool.and_true, Bool.true_and, List.length_cons, List.length_nil, splice, List.set_cons_zero, List.set_cons_succ, Nat.le_refl, Nat.reduceLeDiff, iter_succ, readA, readK, loadA, List.getElem?_cons_zero, List.getElem?_cons_succ, Bool.and_self, and_self, and_true, true_and, s19, hc1, hc2, w1]

/-- A count changed, in memory. -/
theorem upd_write {b : Nat} (hb : h.get b = some ⟨S.flatMap slotC, .grown 26⟩) {id : Int} (h0 : rf S id ≠ 0) (g : Nat → Nat) :
    h.write (b, (id - 1).toNat * 26 + 25) [.int .i64 (g (rf S id))] = some (h.put b ⟨(upd g S id).flatMap slotC, .grown 26⟩) := by
  obtain ⟨h1, hlt, x, hx, hr, _⟩ := rf_pos h0
  have hset : (upd g S id) = S.set (id - 1).toNat (x.1, g x.2) := by
    unfold upd
    rw [if_pos h1]
    apply List.ext_getElem?
    intro j
    rw [List.getElem?_modify, List.getElem?_set]
    generalize (id - 1).toNat = i at *
    by_cases hj : i = j
    · subst hj; rw [hx]; simp [hlt]
    · simp [hj]
  have hle : (id - 1).toNat * 26 + 26 ≤ S.length * 26 := by
    have := Nat.mul_le_mul_right 26 (show (id - 1).toNat + 1 ≤ S.length from hlt)
    omega
  rw [Hp.write_at hb rfl (by simp) (by rw [flat_length slotC_len]; simp only [List.length_cons, List.length_nil]; omega) (by simp [AV.one])]
  rw [hset, flat_splice slotC_len S _ 25 x (x.1, g x.2) _ hx (by simp) (by rw [slotC_set, hr])]

theorem keep_ok {n : Nat} (hn : 1 < n) (hA : h.get a = some ⟨[.int .i64 most, sl, fl], .own⟩) (hS : SlotsAt h sl S bs) (hlen : S.length < 1000000) (id : Int) (hr : rf S id < 1000000000) :
    evalFn F2 n 14 [.ptr (some (a, 0)), .int .i64 id] h = some (if rf S id = 0 then (.int .i64 10, h) else (.int .i64 0, h.put (bs.headD 0) ⟨(inc S id).flatMap slotC, .grown 26⟩)) := by
  obtain ⟨k, rfl⟩ : ∃ k, n = k + 1 := ⟨n - 1, by omega⟩
  have e1 := slot_ok (n := k) (by omega) hA hS hlen id
  by_cases h0 : rf S id = 0
  · rw [slotP, if_pos h0] at e1
    have e2 := none_ok (n := k) (by omega) h (a, 0)
    simp (maxSteps := 4000000) only [evalFn_text F2_keep, evalT_fn, BK.hid, cond_true, cond_false, guess0, List.tail_nil, List.headD_nil, evalS, evalOps, evalOp, evalO, wantedA, opd, opds, optOpd, optInt, putO, frameOf, T.get_set, T.get_nil, Option.map_some, Option.map_none, Nat.reduceEqDiff, if_true, if_false, reduceIte, reduceCtorEq, Nat.reduceAdd, resA, oneOrTuple, binA, binInt, eqA, lenA, capA, unA, partA, partsA, fillA, sliceA, bounds_none, bounds_lo, bounds_hi, bounds_lohi, evalDreg_false, List.take_succ_cons, List.take_zero, List.take_nil, List.drop_zero, List.drop_succ_cons, List.drop_nil, AV.beq, eq_self, hoist, evalD, O.cls, readsOk, List.tail_cons, List.headD_cons, List.nil_append, List.cons_append, List.getLast?_cons_cons, List.getLast?_singleton, Nat.sub_zero, Int.toNat_natCast, ite_self, Nat.add_zero, Nat.zero_add, Nat.zero_mul, Option.isNone_none, Option.isNone_some, Option.isSome_none, Option.isSome_some, Int.reduceBEq, Int.reduceBNe, Int.reduceLT, Int.reduceLE, Int.reduceGT, Int.reduceGE, Int.reduceEq, decide_true, decide_false, Bool.not_true, Bool.not_false, Int.reduceMul, Int.reduceAdd, Int.reduceSub, Int.reduceToNat, Nat.reduceMul, Nat.reduceSub, Nat.reduceLT, Nat.reduceLeDiff, beq_self_eq_true, bne_self_eq_false, Bool.true_beq, Bool.false_beq, ne_eq, not_true_eq_false, not_false_eq_true, Bool.false_eq_true, Bool.or_self, or_self, AV.cells, AV.one, List.all_cons, List.all_nil, Bool.and_true, Bool.true_and, List.length_cons, List.length_nil, splice, List.set_cons_zero, List.set_cons_succ, Nat.le_refl, Nat.reduceLeDiff, iter_succ, readA, readK, loadA, List.getElem?_cons_zero, List.getElem?_cons_succ, Bool.and_self, and_self, and_true, true_and, s14, e1, e2, h0]
  · obtain ⟨_, hlt, _⟩ := rf_pos h0
    obtain ⟨b, rfl, rfl, hb⟩ := slots_block hS hlt
    rw [slotP, if_neg h0] at e1
    have e2 := refs_cell hb h0
    have e3 := upd_write hb h0 (· + 1)
    have w1 : IntKind.i64.wrap ((rf S id : Int) + 1) = ((rf S id + 1 : Nat) : Int) := by rw [wrap_id (by omega) (by omega)]; simp
    simp only [List.headD_cons] at e1 ⊢
    simp (maxSteps := 4000000) only [evalFn_text F2_keep, evalT_fn, BK.hid, cond_true, cond_false, guess0, List.tail_nil, List.headD_nil, evalS, evalOps, evalOp, evalO, wantedA, opd, opds, optOpd, optInt, putO, frameOf, T.get_set, T.get_nil, Option.map_some, Option.map_none, Nat.reduceEqDiff, if_true, if_false, reduceIte, reduceCtorEq, Nat.reduceAdd, resA, oneOrTuple, binA, binInt, eqA, lenA, capA, unA, partA, partsA, fillA, sliceA, bounds_none, bounds_lo, bounds_hi, bounds_lohi, evalDreg_false, List.take_succ_cons, List.take_zero, List.take_nil, List.drop_zero, List.drop_succ_cons, List.drop_nil, AV.beq, eq_self, hoist, evalD, O.cls, readsOk, List.tail_cons, List.headD_cons, List.nil_append, List.cons_append, List.getLast?_cons_cons, List.getLast?_singleton, Nat.sub_zero, Int.toNat_natCast, ite_self, Nat.add_zero, Nat.zero_add, Nat.zero_mul, Option.isNone_none, Option.isNone_some, Option.isSome_none, Option.isSome_some, Int.reduceBEq, Int.reduceBNe, Int.reduceLT, Int.reduceLE, Int.reduceGT, Int.reduceGE, Int.reduceEq, decide_true, decide_false, Bool.not_true, Bool.not_false, Int.reduceMul, Int.reduceAdd, Int.reduceSub, Int.reduceToNat, Nat.reduceMul, Nat.reduceSub, Nat.reduceLT, Nat.reduceLeDiff, beq_self_eq_true, bne_self_eq_false, Bool.true_beq, Bool.false_beq, ne_eq, not_true_eq_false, not_false_eq_true, Bool.false_eq_true, Bool.or_self, or_self, AV.cells, AV.one, List.all_cons, List.all_nil, Bool.and_true, Bool.true_and, List.length_cons, List.length_nil, splice, List.set_cons_zero, List.set_cons_succ, Nat.le_refl, Nat.reduceLeDiff, iter_succ, readA, readK, loadA, List.getElem?_cons_zero, List.getElem?_cons_succ, Bool.and_self, and_self, and_true, true_and, s14, e1, e2, w1, e3, h0, inc]

/-! ### A block more does not matter -/
theorem get_new_ne {c : Nat} (hc : c < h.next) (k : Blk) : (h.new k).get c = h.get c := by rw [Hp.get_new, if_neg (by omega)]

theorem slots_new (hS : SlotsAt h sl S bs) (hb : ∀ b ∈ bs, b < h.next) (k : Blk) : SlotsAt (h.new k) sl S bs := by
  match bs, hS with
  | [], hh => exact hh
  | [b], ⟨e, hb2⟩ => exact ⟨e, by rw [get_new_ne (hb b (by simp))]; exact hb2⟩

def zN : List AV := [(.bool false), (.int .i64 0), (.int .i64 0), (.int .i64 0), (.int .i64 0), (.int .i64 0), (.int .i64 0), (.int .i64 0), (.int .i64 0), (.int .i64 0), (.bool false), (.int .i64 0), (.bool false), (.int .i64 0), (.bool false), (.int .i64 0), (.bool false), (.int .i64 0), (.bool false), (.int .i64 0), (.bool false), (.int .i64 0), (.bool false), (.int .i64 0), (.bool false)]
theorem zN_len : zN.length = 25 := rfl

theorem node_cells {h : Hp} {b : Nat} (hb : h.get b = some ⟨S.flatMap slotC, .grown 26⟩) {i : Nat} {x : Nd × Nat} (hx : S[i]? = some x) : h.cells (b, i * 26) 25 = some (nodeC x.1) := by
  have hlt : i < S.length := by
    rcases Nat.lt_or_ge i S.length with hh | hh
    · exact hh
    · rw [List.getElem?_eq_none hh] at hx; cases hx
  have hle : i * 26 + 26 ≤ S.length * 26 := by
    have := Nat.mul_le_mul_right 26 (show i + 1 ≤ S.length from hlt)
    omega
  rw [Hp.cells_at hb rfl (by rw [flat_length slotC_len]; omega)]
  have := flat_cells slotC_len S i 0 25 x hx (by omega)
  rw [Nat.add_zero] at this
  rw [this, List.drop_zero]
  simp only [slotC]
  rw [List.take_append_of_le_length (by rw [nodeC_len]; omega), List.take_of_length_le (by rw [nodeC_len]; omega)]

theorem entC_flat_one : ∀ l : List (Int × Bool), (l.flatMap entC).all AV.one = true
  | [] => rfl
  | v :: l => by simp [entC, AV.one, entC_flat_one l]
theorem nodeC_one (n : Nd) : (nodeC n).all AV.one = true := by
  simp only [nodeC, List.all_cons, List.all_append, entC_flat_one, Bool.and_true]
  simp [AV.one]

theorem splice_all (l vs : List AV) (h : vs.length = l.length) : splice l 0 vs = vs := by
  apply List.ext_getElem?
  intro i
  rw [splice_get _ _ _ _ (by omega)]
  by_cases hi : i < vs.length
  · rw [if_pos ⟨Nat.zero_le _, by omega⟩, Nat.sub_zero]
  · rw [if_neg (by omega), List.getElem?_eq_none (by omega), List.getElem?_eq_none (by omega)]

theorem write_new {cs vs : List AV} (hl : vs.length = cs.length) (h1 : vs.all AV.one = true) : (h.new ⟨cs, .own⟩).write (h.next, 0) vs = some (h.new ⟨vs, .own⟩) := by
  rw [Hp.write_at (k := .own) (cs := cs) (by rw [Hp.get_new, if_pos rfl]) rfl (by simp) (by omega) h1, splice_all _ _ hl, Hp.put_new]

theorem cells_new {vs : List AV} {n : Nat} (hl : vs.length = n) : (h.new ⟨vs, .own⟩).cells (h.next, 0) n = some vs := by
  rw [Hp.cells_at (k := .own) (cs := vs) (by rw [Hp.get_new, if_pos rfl]) rfl (by omega), List.drop_zero, List.take_of_length_le (by omega)]

theorem at_ok {n : Nat} (hn : 1 < n) (hA : h.get a = some ⟨[.int .i64 most, sl, fl], .own⟩) (hS : SlotsAt h sl S bs) (hlen : S.length < 1000000) (ha : a < h.next) (hb : ∀ b ∈ bs, b < h.next) (id : Int) :
    (rf S id = 0 → evalFn F2 n 21 [.ptr (some (a, 0)), .int .i64 id] h = some (.tuple [.agg zN, .int .i64 10], h.new ⟨zN, .own⟩)) ∧
    (∀ x, at? S id = some x → x.2 ≠ 0 → evalFn F2 n 21 [.ptr (some (a, 0)), .int .i64 id] h = some (.tuple [.agg (nodeC x.1), .int .i64 0], h.new ⟨nodeC x.1, .own⟩)) := by
  obtain ⟨k, rfl⟩ : ∃ k, n = k + 1 := ⟨n - 1, by omega⟩
  have e1 := slot_ok (n := k) (by omega) (h := h.new ⟨zN, .own⟩) (by rw [get_new_ne ha]; exact hA) (slots_new hS hb _) hlen id
  have wz : (h.new ⟨zN, .own⟩).write (h.next, 0) zN = some (h.new ⟨zN, .own⟩) := write_new rfl rfl
  have cz : (h.new ⟨zN, .own⟩).cells (h.next, 0) 25 = some zN := cells_new rfl
  refine ⟨fun h0 => ?_, fun x hx hx0 => ?_⟩
  · rw [slotP, if_pos h0] at e1
    have e2 := none_ok (n := k) (by omega) (h.new ⟨zN, .own⟩) (a, 0)
    unfold zN at e1 e2 wz cz ⊢
    simp (maxSteps := 4000000) only [evalFn_text F2_at, evalT_fn, BK.hid, cond_true, cond_false, guess0, List.tail_nil, List.headD_nil, evalS, evalOps, evalOp, evalO, wantedA, opd, opds, optOpd, optInt, putO, frameOf, T.get_set, T.get_nil, Option.map_some, Option.map_none, Nat.reduceEqDiff, if_true, if_false, reduceIte, reduceCtorEq, Nat.reduceAdd, resA, oneOrTuple, binA, binInt, eqA, lenA, capA, unA, partA, partsA, fillA, sliceA, bounds_none, bounds_lo, bounds_hi, bounds_lohi, evalDreg_false, List.take_succ_cons, List.take_zero, List.take_nil, List.drop_zero, List.drop_succ_cons, List.drop_nil, AV.beq, eq_self, hoist, evalD, O.cls, readsOk, List.tail_cons, List.headD_cons, List.nil_append, List.cons_append, List.getLast?_cons_cons, List.getLast?_singleton, Nat.sub_zero, Int.toNat_natCast, ite_self, Nat.add_zero, Nat.zero_add, Nat.zero_mul, Option.isNone_none, Option.isNone_some, Option.isSome_none, Option.isSome_some, Int.reduceBEq, Int.reduceBNe, Int.reduceLT, Int.reduceLE, Int.reduceGT, Int.reduceGE, Int.reduceEq, decide_true, decide_false, Bool.not_true, Bool.not_false, Int.reduceMul, Int.reduceAdd, Int.reduceSub, Int.reduceToNat, Nat.reduceMul, Nat.reduceSub, Nat.reduceLT, Nat.reduceLeDiff, beq_self_eq_true, bne_self_eq_false, Bool.true_beq, Bool.false_beq, ne_eq, not_true_eq_false, not_false_eq_true, Bool.false_eq_true, Bool.or_self, or_self, AV.cells, AV.one, List.all_cons, List.all_nil, Bool.and_true, Bool.true_and, List.length_cons, List.length_nil, splice, List.set_cons_zero, List.set_cons_succ, Nat.le_refl, Nat.reduceLeDiff, iter_succ, readA, readK, loadA, List.getElem?_cons_zero, List.getElem?_cons_succ, Bool.and_self, and_self, and_true, true_and, s21, e1, e2, wz, cz]
  · have h0 : rf S id ≠ 0 := by unfold rf; rw [hx]; exact hx0
    obtain ⟨_, hlt, y, hy, _, hat⟩ := rf_pos h0
    rw [hx] at hat; cases hat
    obtain ⟨b, rfl, rfl, hb2⟩ := slots_block hS hlt
    rw [slotP, if_neg h0] at e1
    simp only [List.headD_cons] at e1
    have c1 : (h.new ⟨zN, .own⟩).cells (b, (id - 1).toNat * 26) 25 = some (nodeC x.1) := node_cells (by rw [get_new_ne (hb b (by simp))]; exact hb2) hy
    have w1 : (h.new ⟨zN, .own⟩).write (h.next, 0) (nodeC x.1) = some (h.new ⟨nodeC x.1, .own⟩) := write_new (nodeC_len _) (nodeC_one _)
    have cz : (h.new ⟨nodeC x.1, .own⟩).cells (h.next, 0) 25 = some (nodeC x.1) := cells_new (nodeC_len _)
    unfold zN at e1 c1 w1
    simp (maxSteps := 4000000) only [evalFn_text F2_at, evalT_fn, BK.hid, cond_true, cond_false, guess0, List.tail_nil, List.headD_nil, evalS, evalOps, evalOp, evalO, wantedA, opd, opds, optOpd, optInt, putO, frameOf, T.get_set, T.get_nil, Option.map_some, Option.map_none, Nat.reduceEqDiff, if_true, if_false, reduceIte, reduceCtorEq, Nat.reduceAdd, resA, oneOrTuple, binA, binInt, eqA, lenA, capA, unA, partA, partsA, fillA, sliceA, bounds_none, bounds_lo, bounds_hi, bounds_lohi, evalDreg_false, List.take_succ_cons, List.take_zero, List.take_nil, List.drop_zero, List.drop_succ_cons, List.drop_nil, AV.beq, eq_self, hoist, evalD, O.cls, readsOk, List.tail_cons, List.headD_cons, List.nil_append, List.cons_append, List.getLast?_cons_cons, List.getLast?_singleton, Nat.sub_zero, Int.toNat_natCast, ite_self, Nat.add_zero, Nat.zero_add, Nat.zero_mul, Option.isNone_none, Option.isNone_some, Option.isSome_none, Option.isSome_some, Int.reduceBEq, Int.reduceBNe, Int.reduceLT, Int.reduceLE, Int.reduceGT, Int.reduceGE, Int.reduceEq, decide_true, decide_false, Bool.not_true, Bool.not_false, Int.reduceMul, Int.reduceAdd, Int.reduceSub, Int.reduceToNat, Nat.reduceMul, Nat.reduceSub, Nat.reduceLT, Nat.reduceLeDiff, beq_self_eq_true, bne_self_eq_false, Bool.true_beq, Bool.false_beq, ne_eq, not_true_eq_false, not_false_eq_true, Bool.false_eq_true, Bool.or_self, or_self, AV.cells, AV.one, List.all_cons, List.all_nil, Bool.and_true, Bool.true_and, List.length_cons, List.length_nil, splice, List.set_cons_zero, List.set_cons_succ, Nat.le_refl, Nat.reduceLeDiff, iter_succ, readA, readK, loadA, List.getElem?_cons_zero, List.getElem?_cons_succ, Bool.and_self, and_self, and_true, true_and, s21, e1, c1, w1, cz, nodeC_len]

end
end Go.Proofs.Ytchffjnmkpedkaa
