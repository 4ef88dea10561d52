/-
  The arena: ArenaStays, whole. Own work of this session.
-/
import Derived.Test.YtchffjnmkpedkaaBe
set_option linter.unusedSectionVars false
set_option linter.unusedSimpArgs false
set_option linter.unusedVariables false
namespace Go.Proofs.Ytchffjnmkpedkaa
set_option linter.unusedSectionVars false
set_option linter.unusedSimpArgs false
set_option linter.unusedVariables false
open Go.Lite Go.RowKit Go.Lite.Arena
set_option maxHeartbeats 4000000
set_option maxRecDepth 10000

def fA0 : S := s4.body
def fA1 : S := fA0.snd
def fA2 : S := fA1.snd
def fA3 : S := fA2.snd
def fA4 : S := fA3.snd
def fA5 : S := fA4.snd
def fA6 : S := fA5.snd
def fA7 : S := fA6.snd
def fA8 : S := fA7.snd
def fA9 : S := fA8.snd
theorem f_eq : s4.body = .seq fA0.fst (.seq fA1.fst (.seq fA2.fst (.seq fA3.fst (.seq fA4.fst (.seq fA5.fst (.seq fA6.fst (.seq fA7.fst (.seq (.seq fA8.fst.fst (.block 0 (.loop s4_l0))) fA9)))))))) := rfl

/-- An act without parts. -/
def noKids (x : ActV) : ActV := ⟨x.kind, x.n, x.leaf, List.replicate 8 0, x.val, rfl⟩
theorem noKids_splice (x : ActV) : splice (actC x) 3 [.int .i64 0, .int .i64 0, .int .i64 0, .int .i64 0, .int .i64 0, .int .i64 0, .int .i64 0, .int .i64 0] = actC (noKids x) := by
  obtain ⟨kind, n, leaf, kids, val, hk⟩ := x
  match kids, hk with
  | [_, _, _, _, _, _, _, _], _ => rfl
theorem actC_all {h : Hp} {b : Nat} {x : ActV} (hb : h.get b = some ⟨actC x, .own⟩) : h.cells (b, 0) 12 = some (actC x) := by
  rw [Hp.cells_at hb rfl (by rw [actC_len]; omega), List.drop_zero, List.take_of_length_le (by rw [actC_len]; omega)]
theorem nodeC_all {h : Hp} {b : Nat} {m : Nd} (hb : h.get b = some ⟨nodeC m, .own⟩) : h.cells (b, 0) 25 = some (nodeC m) := by
  rw [Hp.cells_at hb rfl (by rw [nodeC_len]; omega), List.drop_zero, List.take_of_length_le (by rw [nodeC_len]; omega)]

section
variable {k : Nat} {h : Hp} {fr : Fr}

theorem f0_ok {x : ActV} {v : AV} {call : Lite.Callee} : ∃ fr', evalS call k fA0.fst (frameOf 0 [.agg (actC x), v]) h = some (.normal, fr', h.new ⟨actC x, .own⟩) ∧ fr'.get 1 = some v ∧ fr'.get 2 = some (.ptr (some (h.next, 0))) := by
  have h1 := actC_one x
  refine ⟨_, (by simp (maxSteps := 4000000) only [fA0, S.fst, evalT_fn, BK.hid, cond_true, cond_false, guess0, List.tail_nil, List.headD_nil, evalS, evalOps, evalOp, evalO, wantedA, opd, opds, optOpd, optInt, putO, frameOf, T.get_set, T.get_nil, Option.map_some, Option.map_none, Nat.reduceEqDiff, if_true, if_false, reduceIte, reduceCtorEq, Nat.reduceAdd, resA, oneOrTuple, binA, binInt, eqA, lenA, capA, unA, partA, partsA, fillA_nil, sliceA, bounds_none, bounds_lo, bounds_hi, bounds_lohi, evalDreg_false, List.take_succ_cons, List.take_zero, List.take_nil, List.drop_zero, List.drop_succ_cons, List.drop_nil, AV.beq, eq_self, hoist, evalD, O.cls, readsOk, List.tail_cons, List.headD_cons, List.nil_append, List.cons_append, List.getLast?_cons_cons, List.getLast?_singleton, Nat.sub_zero, Int.toNat_natCast, ite_self, Nat.add_zero, Nat.zero_add, Nat.zero_mul, Option.isNone_none, Option.isNone_some, Option.isSome_none, Option.isSome_some, Int.reduceBEq, Int.reduceBNe, Int.reduceLT, Int.reduceLE, Int.reduceGT, Int.reduceGE, Int.reduceEq, decide_true, decide_false, Bool.not_true, Bool.not_false, Int.reduceMul, Int.reduceAdd, Int.reduceSub, Int.reduceToNat, Nat.reduceMul, Nat.reduceSub, Nat.reduceLT, Nat.reduceLeDiff, beq_self_eq_true, bne_self_eq_false, Bool.true_beq, Bool.false_beq, ne_eq, not_true_eq_false, not_false_eq_true, Bool.false_eq_true, Bool.or_self, or_self, AV.cells, AV.one, List.all_cons, List.all_nil, Bool.and_true, Bool.true_and, List.length_cons, List.length_nil, splice, List.set_cons_zero, List.set_cons_succ, Nat.le_refl, Nat.reduceLeDiff, iter_succ, readA, readK, loadA, List.getElem?_cons_zero, List.getElem?_cons_succ, Bool.and_self, and_self, and_true, true_and, s4, h1]; rfl), by simp [T.get_set], by simp [T.get_set]⟩

theorem f1_ok {F : FuncId → Option Def} {a : Nat} {h1 : Hp} (e1 : evalFn F k 13 [.int .i64 60] h = some (.tuple [.ptr (some (a, 0)), .int .i64 0], h1)) :
    ∃ fr', evalS (evalT F k) k fA1.fst fr h = some (.normal, fr', h1) ∧ fr'.get 5 = some (.ptr (some (a, 0))) ∧ fr'.get 6 = some (.int .i64 0) ∧ ∀ t, t < 3 → fr'.get t = fr.get t := by
  refine ⟨_, (by simp (maxSteps := 4000000) only [fA1, fA0, S.fst, S.snd, evalT_fn, BK.hid, cond_true, cond_false, guess0, List.tail_nil, List.headD_nil, evalS, evalOps, evalOp, evalO, wantedA, opd, opds, optOpd, optInt, putO, frameOf, T.get_set, T.get_nil, Option.map_some, Option.map_none, Nat.reduceEqDiff, if_true, if_false, reduceIte, reduceCtorEq, Nat.reduceAdd, resA, oneOrTuple, binA, binInt, eqA, lenA, capA, unA, partA, partsA, fillA_nil, sliceA, bounds_none, bounds_lo, bounds_hi, bounds_lohi, evalDreg_false, List.take_succ_cons, List.take_zero, List.take_nil, List.drop_zero, List.drop_succ_cons, List.drop_nil, AV.beq, eq_self, hoist, evalD, O.cls, readsOk, List.tail_cons, List.headD_cons, List.nil_append, List.cons_append, List.getLast?_cons_cons, List.getLast?_singleton, Nat.sub_zero, Int.toNat_natCast, ite_self, Nat.add_zero, Nat.zero_add, Nat.zero_mul, Option.isNone_none, Option.isNone_some, Option.isSome_none, Option.isSome_some, Int.reduceBEq, Int.reduceBNe, Int.reduceLT, Int.reduceLE, Int.reduceGT, Int.reduceGE, Int.reduceEq, decide_true, decide_false, Bool.not_true, Bool.not_false, Int.reduceMul, Int.reduceAdd, Int.reduceSub, Int.reduceToNat, Nat.reduceMul, Nat.reduceSub, Nat.reduceLT, Nat.reduceLeDiff, beq_self_eq_true, bne_self_eq_false, Bool.true_beq, Bool.false_beq, ne_eq, not_true_eq_false, not_false_eq_true, Bool.false_eq_true, Bool.or_self, or_self, AV.cells, AV.one, List.all_cons, List.all_nil, Bool.and_true, Bool.true_and, List.length_cons, List.length_nil, splice, List.set_cons_zero, List.set_cons_succ, Nat.le_refl, Nat.reduceLeDiff, iter_succ, readA, readK, loadA, List.getElem?_cons_zero, List.getElem?_cons_succ, Bool.and_self, and_self, and_true, true_and, s4, e1]; rfl), by simp [T.get_set], by simp [T.get_set], fun t ht => ?_⟩
  simp only [T.get_set, show ¬ t = 16 by omega, show ¬ t = 17 by omega, show ¬ t = 18 by omega, show ¬ t = 19 by omega, show ¬ t = 5 by omega, show ¬ t = 6 by omega, if_false]

theorem f2_ok {a : Nat} (g5 : fr.get 5 = some (.ptr (some (a, 0)))) (g6 : fr.get 6 = some (.int .i64 0)) {call : Lite.Callee} : ∃ fr', evalS call k fA2.fst fr h = some (.normal, fr', h) ∧ ∀ t, t < 14 → fr'.get t = fr.get t := by
  refine ⟨_, (by simp (maxSteps := 4000000) only [fA2, fA1, fA0, S.fst, S.snd, evalT_fn, BK.hid, cond_true, cond_false, guess0, List.tail_nil, List.headD_nil, evalS, evalOps, evalOp, evalO, wantedA, opd, opds, optOpd, optInt, putO, frameOf, T.get_set, T.get_nil, Option.map_some, Option.map_none, Nat.reduceEqDiff, if_true, if_false, reduceIte, reduceCtorEq, Nat.reduceAdd, resA, oneOrTuple, binA, binInt, eqA, lenA, capA, unA, partA, partsA, fillA_nil, sliceA, bounds_none, bounds_lo, bounds_hi, bounds_lohi, evalDreg_false, List.take_succ_cons, List.take_zero, List.take_nil, List.drop_zero, List.drop_succ_cons, List.drop_nil, AV.beq, eq_self, hoist, evalD, O.cls, readsOk, List.tail_cons, List.headD_cons, List.nil_append, List.cons_append, List.getLast?_cons_cons, List.getLast?_singleton, Nat.sub_zero, Int.toNat_natCast, ite_self, Nat.add_zero, Nat.zero_add, Nat.zero_mul, Option.isNone_none, Option.isNone_some, Option.isSome_none, Option.isSome_some, Int.reduceBEq, Int.reduceBNe, Int.reduceLT, Int.reduceLE, Int.reduceGT, Int.reduceGE, Int.reduceEq, decide_true, decide_false, Bool.not_true, Bool.not_false, Int.reduceMul, Int.reduceAdd, Int.reduceSub, Int.reduceToNat, Nat.reduceMul, Nat.reduceSub, Nat.reduceLT, Nat.reduceLeDiff, beq_self_eq_true, bne_self_eq_false, Bool.true_beq, Bool.false_beq, ne_eq, not_true_eq_false, not_false_eq_true, Bool.false_eq_true, Bool.or_self, or_self, AV.cells, AV.one, List.all_cons, List.all_nil, Bool.and_true, Bool.true_and, List.length_cons, List.length_nil, splice, List.set_cons_zero, List.set_cons_succ, Nat.le_refl, Nat.reduceLeDiff, iter_succ, readA, readK, loadA, List.getElem?_cons_zero, List.getElem?_cons_succ, Bool.and_self, and_self, and_true, true_and, s4, g5, g6]; rfl), fun t ht => ?_⟩
  simp only [T.get_set, show ¬ t = 20 by omega, show ¬ t = 21 by omega, show ¬ t = 22 by omega, show ¬ t = 23 by omega, show ¬ t = 24 by omega, show ¬ t = 25 by omega, if_false]

theorem f3_ok {b : Nat} {x : ActV} (g2 : fr.get 2 = some (.ptr (some (b, 0)))) (hb : h.get b = some ⟨actC x, .own⟩) {call : Lite.Callee} : ∃ fr', evalS call k fA3.fst fr h = some (.normal, fr', h.put b ⟨actC (noKids x), .own⟩) ∧ ∀ t, t < 14 → fr'.get t = fr.get t := by
  have w1 := Hp.write_at (i := 3) (vs := [.int .i64 0, .int .i64 0, .int .i64 0, .int .i64 0, .int .i64 0, .int .i64 0, .int .i64 0, .int .i64 0]) hb rfl (by simp) (by rw [actC_len]; simp) rfl
  rw [noKids_splice] at w1
  refine ⟨_, (by simp (maxSteps := 4000000) only [fA3, fA2, fA1, fA0, S.fst, S.snd, evalT_fn, BK.hid, cond_true, cond_false, guess0, List.tail_nil, List.headD_nil, evalS, evalOps, evalOp, evalO, wantedA, opd, opds, optOpd, optInt, putO, frameOf, T.get_set, T.get_nil, Option.map_some, Option.map_none, Nat.reduceEqDiff, if_true, if_false, reduceIte, reduceCtorEq, Nat.reduceAdd, resA, oneOrTuple, binA, binInt, eqA, lenA, capA, unA, partA, partsA, fillA_nil, sliceA, bounds_none, bounds_lo, bounds_hi, bounds_lohi, evalDreg_false, List.take_succ_cons, List.take_zero, List.take_nil, List.drop_zero, List.drop_succ_cons, List.drop_nil, AV.beq, eq_self, hoist, evalD, O.cls, readsOk, List.tail_cons, List.headD_cons, List.nil_append, List.cons_append, List.getLast?_cons_cons, List.getLast?_singleton, Nat.sub_zero, Int.toNat_natCast, ite_self, Nat.add_zero, Nat.zero_add, Nat.zero_mul, Option.isNone_none, Option.isNone_some, Option.isSome_none, Option.isSome_some, Int.reduceBEq, Int.reduceBNe, Int.reduceLT, Int.reduceLE, Int.reduceGT, Int.reduceGE, Int.reduceEq, decide_true, decide_false, Bool.not_true, Bool.not_false, Int.reduceMul, Int.reduceAdd, Int.reduceSub, Int.reduceToNat, Nat.reduceMul, Nat.reduceSub, Nat.reduceLT, Nat.reduceLeDiff, beq_self_eq_true, bne_self_eq_false, Bool.true_beq, Bool.false_beq, ne_eq, not_true_eq_false, not_false_eq_true, Bool.false_eq_true, Bool.or_self, or_self, AV.cells, AV.one, List.all_cons, List.all_nil, Bool.and_true, Bool.true_and, List.length_cons, List.length_nil, splice, List.set_cons_zero, List.set_cons_succ, Nat.le_refl, Nat.reduceLeDiff, iter_succ, readA, readK, loadA, List.getElem?_cons_zero, List.getElem?_cons_succ, Bool.and_self, and_self, and_true, true_and, s4, g2, w1]; rfl), fun t ht => ?_⟩
  simp only [T.get_set, show ¬ t = 26 by omega, show ¬ t = 27 by omega, if_false]

theorem f4_ok {F : FuncId → Option Def} {b : Nat} {x : ActV} {m : Nd} {h1 : Hp} (g2 : fr.get 2 = some (.ptr (some (b, 0)))) (hb : h.get b = some ⟨actC x, .own⟩) (e1 : evalFn F k 17 [.agg (actC x)] h = some (.agg (nodeC m), h1)) :
    ∃ fr', evalS (evalT F k) k fA4.fst fr h = some (.normal, fr', h1.new ⟨nodeC m, .own⟩) ∧ fr'.get 7 = some (.ptr (some (h1.next, 0))) ∧ ∀ t, t < 7 → fr'.get t = fr.get t := by
  have c1 := actC_all hb
  have w1 : (h1.new ⟨zN, .own⟩).write (h1.next, 0) (nodeC m) = some (h1.new ⟨nodeC m, .own⟩) := write_new (nodeC_len _) (nodeC_one _)
  unfold zN at w1
  refine ⟨_, (by simp (maxSteps := 4000000) only [fA4, fA3, fA2, fA1, fA0, S.fst, S.snd, evalT_fn, BK.hid, cond_true, cond_false, guess0, List.tail_nil, List.headD_nil, evalS, evalOps, evalOp, evalO, wantedA, opd, opds, optOpd, optInt, putO, frameOf, T.get_set, T.get_nil, Option.map_some, Option.map_none, Nat.reduceEqDiff, if_true, if_false, reduceIte, reduceCtorEq, Nat.reduceAdd, resA, oneOrTuple, binA, binInt, eqA, lenA, capA, unA, partA, partsA, fillA_nil, sliceA, bounds_none, bounds_lo, bounds_hi, bounds_lohi, evalDreg_false, List.take_succ_cons, List.take_zero, List.take_nil, List.drop_zero, List.drop_succ_cons, List.drop_nil, AV.beq, eq_self, hoist, evalD, O.cls, readsOk, List.tail_cons, List.headD_cons, List.nil_append, List.cons_append, List.getLast?_cons_cons, List.getLast?_singleton, Nat.sub_zero, Int.toNat_natCast, ite_self, Nat.add_zero, Nat.zero_add, Nat.zero_mul, Option.isNone_none, Option.isNone_some, Option.isSome_none, Option.isSome_some, Int.reduceBEq, Int.reduceBNe, Int.reduceLT, Int.reduceLE, Int.reduceGT, Int.reduceGE, Int.reduceEq, decide_true, decide_false, Bool.not_true, Bool.not_false, Int.reduceMul, Int.reduceAdd, Int.reduceSub, Int.reduceToNat, Nat.reduceMul, Nat.reduceSub, Nat.reduceLT, Nat.reduceLeDiff, beq_self_eq_true, bne_self_eq_false, Bool.true_beq, Bool.false_beq, ne_eq, not_true_eq_false, not_false_eq_true, Bool.false_eq_true, Bool.or_self, or_self, AV.cells, AV.one, List.all_cons, List.all_nil, Bool.and_true, Bool.true_and, List.length_cons, List.length_nil, splice, List.set_cons_zero, List.set_cons_succ, Nat.le_refl, Nat.reduceLeDiff, iter_succ, readA, readK, loadA, List.getElem?_cons_zero, List.getElem?_cons_succ, Bool.and_self, and_self, and_true, true_and, s4, g2, c1, e1, w1, nodeC_len]; rfl), by simp [T.get_set], fun t ht => ?_⟩
  simp only [T.get_set, show ¬ t = 28 by omega, show ¬ t = 29 by omega, show ¬ t = 7 by omega, if_false]

theorem f5_ok {F : FuncId → Option Def} {a b : Nat} {m m' : Nd} {id : Int} {h1 h2 : Hp} (g5 : fr.get 5 = some (.ptr (some (a, 0)))) (g7 : fr.get 7 = some (.ptr (some (b, 0)))) (hb : h.get b = some ⟨nodeC m, .own⟩) (e1 : evalFn F k 16 [.agg (nodeC m)] h = some (.agg (nodeC m'), h1))
    (e2 : evalFn F k 15 [.ptr (some (a, 0)), .agg (nodeC m')] h1 = some (.tuple [.int .i64 id, .int .i64 0], h2)) :
    ∃ fr', evalS (evalT F k) k fA5.fst fr h = some (.normal, fr', h2) ∧ fr'.get 8 = some (.int .i64 id) ∧ fr'.get 9 = some (.int .i64 0) ∧ ∀ t, t < 7 → fr'.get t = fr.get t := by
  have c1 := nodeC_all hb
  refine ⟨_, (by simp (maxSteps := 4000000) only [fA5, fA4, fA3, fA2, fA1, fA0, S.fst, S.snd, evalT_fn, BK.hid, cond_true, cond_false, guess0, List.tail_nil, List.headD_nil, evalS, evalOps, evalOp, evalO, wantedA, opd, opds, optOpd, optInt, putO, frameOf, T.get_set, T.get_nil, Option.map_some, Option.map_none, Nat.reduceEqDiff, if_true, if_false, reduceIte, reduceCtorEq, Nat.reduceAdd, resA, oneOrTuple, binA, binInt, eqA, lenA, capA, unA, partA, partsA, fillA_nil, sliceA, bounds_none, bounds_lo, bounds_hi, bounds_lohi, evalDreg_false, List.take_succ_cons, List.take_zero, List.take_nil, List.drop_zero, List.drop_succ_cons, List.drop_nil, AV.beq, eq_self, hoist, evalD, O.cls, readsOk, List.tail_cons, List.headD_cons, List.nil_append, List.cons_append, List.getLast?_cons_cons, List.getLast?_singleton, Nat.sub_zero, Int.toNat_natCast, ite_self, Nat.add_zero, Nat.zero_add, Nat.zero_mul, Option.isNone_none, Option.isNone_some, Option.isSome_none, Option.isSome_some, Int.reduceBEq, Int.reduceBNe, Int.reduceLT, Int.reduceLE, Int.reduceGT, Int.reduceGE, Int.reduceEq, decide_true, decide_false, Bool.not_true, Bool.not_false, Int.reduceMul, Int.reduceAdd, Int.reduceSub, Int.reduceToNat, Nat.reduceMul, Nat.reduceSub, Nat.reduceLT, Nat.reduceLeDiff, beq_self_eq_true, bne_self_eq_false, Bool.true_beq, Bool.false_beq, ne_eq, not_true_eq_false, not_false_eq_true, Bool.false_eq_true, Bool.or_self, or_self, AV.cells, AV.one, List.all_cons, List.all_nil, Bool.and_true, Bool.true_and, List.length_cons, List.length_nil, splice, List.set_cons_zero, List.set_cons_succ, Nat.le_refl, Nat.reduceLeDiff, iter_succ, readA, readK, loadA, List.getElem?_cons_zero, List.getElem?_cons_succ, Bool.and_self, and_self, and_true, true_and, s4, g5, g7, c1, e1, e2]; rfl), by simp [T.get_set], by simp [T.get_set], fun t ht => ?_⟩
  simp only [T.get_set, show ¬ t = 30 by omega, show ¬ t = 31 by omega, show ¬ t = 32 by omega, show ¬ t = 33 by omega, show ¬ t = 34 by omega, show ¬ t = 35 by omega, show ¬ t = 36 by omega, show ¬ t = 8 by omega, show ¬ t = 9 by omega, if_false]

theorem f6_ok {F : FuncId → Option Def} {a : Nat} {m : Nd} {id : Int} {h1 : Hp} (g5 : fr.get 5 = some (.ptr (some (a, 0)))) (g8 : fr.get 8 = some (.int .i64 id)) (e1 : evalFn F k 21 [.ptr (some (a, 0)), .int .i64 id] h = some (.tuple [.agg (nodeC m), .int .i64 0], h1)) :
    ∃ fr', evalS (evalT F k) k fA6.fst fr h = some (.normal, fr', h1.new ⟨nodeC m, .own⟩) ∧ fr'.get 10 = some (.ptr (some (h1.next, 0))) ∧ fr'.get 11 = some (.int .i64 0) ∧ ∀ t, t < 10 → fr'.get t = fr.get t := by
  have w1 : (h1.new ⟨zN, .own⟩).write (h1.next, 0) (nodeC m) = some (h1.new ⟨nodeC m, .own⟩) := write_new (nodeC_len _) (nodeC_one _)
  unfold zN at w1
  refine ⟨_, (by simp (maxSteps := 4000000) only [fA6, fA5, fA4, fA3, fA2, fA1, fA0, S.fst, S.snd, evalT_fn, BK.hid, cond_true, cond_false, guess0, List.tail_nil, List.headD_nil, evalS, evalOps, evalOp, evalO, wantedA, opd, opds, optOpd, optInt, putO, frameOf, T.get_set, T.get_nil, Option.map_some, Option.map_none, Nat.reduceEqDiff, if_true, if_false, reduceIte, reduceCtorEq, Nat.reduceAdd, resA, oneOrTuple, binA, binInt, eqA, lenA, capA, unA, partA, partsA, fillA_nil, sliceA, bounds_none, bounds_lo, bounds_hi, bounds_lohi, evalDreg_false, List.take_succ_cons, List.take_zero, List.take_nil, List.drop_zero, List.drop_succ_cons, List.drop_nil, AV.beq, eq_self, hoist, evalD, O.cls, readsOk, List.tail_cons, List.headD_cons, List.nil_append, List.cons_append, List.getLast?_cons_cons, List.getLast?_singleton, Nat.sub_zero, Int.toNat_natCast, ite_self, Nat.add_zero, Nat.zero_add, Nat.zero_mul, Option.isNone_none, Option.isNone_some, Option.isSome_none, Option.isSome_some, Int.reduceBEq, Int.reduceBNe, Int.reduceLT, Int.reduceLE, Int.reduceGT, Int.reduceGE, Int.reduceEq, decide_true, decide_false, Bool.not_true, Bool.not_false, Int.reduceMul, Int.reduceAdd, Int.reduceSub, Int.reduceToNat, Nat.reduceMul, Nat.reduceSub, Nat.reduceLT, Nat.reduceLeDiff, beq_self_eq_true, bne_self_eq_false, Bool.true_beq, Bool.false_beq, ne_eq, not_true_eq_false, not_false_eq_true, Bool.false_eq_true, Bool.or_self, or_self, AV.cells, AV.one, List.all_cons, List.all_nil, Bool.and_true, Bool.true_and, List.length_cons, List.length_nil, splice, List.set_cons_zero, List.set_cons_succ, Nat.le_refl, Nat.reduceLeDiff, iter_succ, readA, readK, loadA, List.getElem?_cons_zero, List.getElem?_cons_succ, Bool.and_self, and_self, and_true, true_and, s4, g5, g8, e1, w1, nodeC_len]; rfl), by simp [T.get_set], by simp [T.get_set], fun t ht => ?_⟩
  simp only [T.get_set, show ¬ t = 37 by omega, show ¬ t = 38 by omega, show ¬ t = 39 by omega, show ¬ t = 40 by omega, show ¬ t = 41 by omega, show ¬ t = 42 by omega, show ¬ t = 10 by omega, show ¬ t = 11 by omega, if_false]

theorem f7_ok (g9 : fr.get 9 = some (.int .i64 0)) (g11 : fr.get 11 = some (.int .i64 0)) {call : Lite.Callee} : ∃ fr', evalS call k fA7.fst fr h = some (.normal, fr', h) ∧ ∀ t, t < 14 → fr'.get t = fr.get t := by
  refine ⟨_, (by simp (maxSteps := 4000000) only [fA7, fA6, fA5, fA4, fA3, fA2, fA1, fA0, S.fst, S.snd, evalT_fn, BK.hid, cond_true, cond_false, guess0, List.tail_nil, List.headD_nil, evalS, evalOps, evalOp, evalO, wantedA, opd, opds, optOpd, optInt, putO, frameOf, T.get_set, T.get_nil, Option.map_some, Option.map_none, Nat.reduceEqDiff, if_true, if_false, reduceIte, reduceCtorEq, Nat.reduceAdd, resA, oneOrTuple, binA, binInt, eqA, lenA, capA, unA, partA, partsA, fillA_nil, sliceA, bounds_none, bounds_lo, bounds_hi, bounds_lohi, evalDreg_false, List.take_succ_cons, List.take_zero, List.take_nil, List.drop_zero, List.drop_succ_cons, List.drop_nil, AV.beq, eq_self, hoist, evalD, O.cls, readsOk, List.tail_cons, List.headD_cons, List.nil_append, List.cons_append, List.getLast?_cons_cons, List.getLast?_singleton, Nat.sub_zero, Int.toNat_natCast, ite_self, Nat.add_zero, Nat.zero_add, Nat.zero_mul, Option.isNone_none, Option.isNone_some, Option.isSome_none, Option.isSome_some, Int.reduceBEq, Int.reduceBNe, Int.reduceLT, Int.reduceLE, Int.reduceGT, Int.reduceGE, Int.reduceEq, decide_true, decide_false, Bool.not_true, Bool.not_false, Int.reduceMul, Int.reduceAdd, Int.reduceSub, Int.reduceToNat, Nat.reduceMul, Nat.reduceSub, Nat.reduceLT, Nat.reduceLeDiff, beq_self_eq_true, bne_self_eq_false, Bool.true_beq, Bool.false_beq, ne_eq, not_true_eq_false, not_false_eq_true, Bool.false_eq_true, Bool.or_self, or_self, AV.cells, AV.one, List.all_cons, List.all_nil, Bool.and_true, Bool.true_and, List.length_cons, List.length_nil, splice, List.set_cons_zero, List.set_cons_succ, Nat.le_refl, Nat.reduceLeDiff, iter_succ, readA, readK, loadA, List.getElem?_cons_zero, List.getElem?_cons_succ, Bool.and_self, and_self, and_true, true_and, s4, g9, g11]; rfl), fun t ht => ?_⟩
  simp only [T.get_set, show ¬ t = 43 by omega, show ¬ t = 44 by omega, show ¬ t = 45 by omega, show ¬ t = 46 by omega, show ¬ t = 47 by omega, show ¬ t = 48 by omega, if_false]

theorem f8_ok {call : Lite.Callee} : ∃ fr', evalS call k fA8.fst.fst fr h = some (.normal, fr', h) ∧ fr'.get 12 = some (.int .i64 0) ∧ ∀ t, t < 12 → fr'.get t = fr.get t := by
  refine ⟨_, (by simp (maxSteps := 4000000) only [fA8, fA7, fA6, fA5, fA4, fA3, fA2, fA1, fA0, S.fst, S.snd, evalT_fn, BK.hid, cond_true, cond_false, guess0, List.tail_nil, List.headD_nil, evalS, evalOps, evalOp, evalO, wantedA, opd, opds, optOpd, optInt, putO, frameOf, T.get_set, T.get_nil, Option.map_some, Option.map_none, Nat.reduceEqDiff, if_true, if_false, reduceIte, reduceCtorEq, Nat.reduceAdd, resA, oneOrTuple, binA, binInt, eqA, lenA, capA, unA, partA, partsA, fillA_nil, sliceA, bounds_none, bounds_lo, bounds_hi, bounds_lohi, evalDreg_false, List.take_succ_cons, List.take_zero, List.take_nil, List.drop_zero, List.drop_succ_cons, List.drop_nil, AV.beq, eq_self, hoist, evalD, O.cls, readsOk, List.tail_cons, List.headD_cons, List.nil_append, List.cons_append, List.getLast?_cons_cons, List.getLast?_singleton, Nat.sub_zero, Int.toNat_natCast, ite_self, Nat.add_zero, Nat.zero_add, Nat.zero_mul, Option.isNone_none, Option.isNone_some, Option.isSome_none, Option.isSome_some, Int.reduceBEq, Int.reduceBNe, Int.reduceLT, Int.reduceLE, Int.reduceGT, Int.reduceGE, Int.reduceEq, decide_true, decide_false, Bool.not_true, Bool.not_false, Int.reduceMul, Int.reduceAdd, Int.reduceSub, Int.reduceToNat, Nat.reduceMul, Nat.reduceSub, Nat.reduceLT, Nat.reduceLeDiff, beq_self_eq_true, bne_self_eq_false, Bool.true_beq, Bool.false_beq, ne_eq, not_true_eq_false, not_false_eq_true, Bool.false_eq_true, Bool.or_self, or_self, AV.cells, AV.one, List.all_cons, List.all_nil, Bool.and_true, Bool.true_and, List.length_cons, List.length_nil, splice, List.set_cons_zero, List.set_cons_succ, Nat.le_refl, Nat.reduceLeDiff, iter_succ, readA, readK, loadA, List.getElem?_cons_zero, List.getElem?_cons_succ, Bool.and_self, and_self, and_true, true_and, s4]; rfl), by simp [T.get_set], fun t ht => ?_⟩
  simp only [T.get_set, show ¬ t = 12 by omega, if_false]

theorem f9_ok (hk : 0 < k) : ∃ fr', evalS (evalT F2 k) k fA9 fr h = some (.ret, fr', h) ∧ fr'.get 4 = some (.bool true) := by
  have e3 : evalFn F2 k 20 [] h = some (.bool true, h) := by rw [evalFn_prim' F2_known9 hk]; rfl
  refine ⟨_, (by simp (maxSteps := 4000000) only [fA9, fA8, fA7, fA6, fA5, fA4, fA3, fA2, fA1, fA0, S.fst, S.snd, evalT_fn, BK.hid, cond_true, cond_false, guess0, List.tail_nil, List.headD_nil, evalS, evalOps, evalOp, evalO, wantedA, opd, opds, optOpd, optInt, putO, frameOf, T.get_set, T.get_nil, Option.map_some, Option.map_none, Nat.reduceEqDiff, if_true, if_false, reduceIte, reduceCtorEq, Nat.reduceAdd, resA, oneOrTuple, binA, binInt, eqA, lenA, capA, unA, partA, partsA, fillA_nil, sliceA, bounds_none, bounds_lo, bounds_hi, bounds_lohi, evalDreg_false, List.take_succ_cons, List.take_zero, List.take_nil, List.drop_zero, List.drop_succ_cons, List.drop_nil, AV.beq, eq_self, hoist, evalD, O.cls, readsOk, List.tail_cons, List.headD_cons, List.nil_append, List.cons_append, List.getLast?_cons_cons, List.getLast?_singleton, Nat.sub_zero, Int.toNat_natCast, ite_self, Nat.add_zero, Nat.zero_add, Nat.zero_mul, Option.isNone_none, Option.isNone_some, Option.isSome_none, Option.isSome_some, Int.reduceBEq, Int.reduceBNe, Int.reduceLT, Int.reduceLE, Int.reduceGT, Int.reduceGE, Int.reduceEq, decide_true, decide_false, Bool.not_true, Bool.not_false, Int.reduceMul, Int.reduceAdd, Int.reduceSub, Int.reduceToNat, Nat.reduceMul, Nat.reduceSub, Nat.reduceLT, Nat.reduceLeDiff, beq_self_eq_true, bne_self_eq_false, Bool.true_beq, Bool.false_beq, ne_eq, not_true_eq_false, not_false_eq_true, Bool.false_eq_true, Bool.or_self, or_self, AV.cells, AV.one, List.all_cons, List.all_nil, Bool.and_true, Bool.true_and, List.length_cons, List.length_nil, splice, List.set_cons_zero, List.set_cons_succ, Nat.le_refl, Nat.reduceLeDiff, iter_succ, readA, readK, loadA, List.getElem?_cons_zero, List.getElem?_cons_succ, Bool.and_self, and_self, and_true, true_and, s4, e3]; rfl), by simp [T.get_set]⟩

end

theorem stays_run (x : ActV) (acts : List ActV) (base : Option (Nat × Nat)) (cap : Cap) (q : Nat) (h : Hp) (hq : acts ≠ [] → base = some (q, 0) ∧ h.get q = some ⟨acts.flatMap actC, .ro⟩ ∧ q < h.next) :
    ∃ h', evalFn F2 7001 4 [.agg (actC x), .slice base acts.length cap] h = some (.bool true, h') := by
  obtain ⟨fr0, e0, a1, a2⟩ := f0_ok (k := 7000) (h := h) (x := x) (v := .slice base acts.length cap) (call := evalT F2 7000)
  obtain ⟨h1, en, A1, k1, n1⟩ := arenaNew_ok (n := 7000) (by omega) (h := h.new ⟨actC x, .own⟩) 60 (by omega) (by omega)
  have hnx : (h.new ⟨actC x, .own⟩).next = h.next + 1 := by simp
  rw [hnx] at en A1 n1
  obtain ⟨fr1, e1, b5, b6, b⟩ := f1_ok (F := F2) (fr := fr0) en
  obtain ⟨fr2, e2, c⟩ := f2_ok (k := 7000) (h := h1) (call := evalT F2 7000) b5 b6
  have hx1 : h1.get h.next = some ⟨actC x, .own⟩ := by rw [k1.2 h.next (by omega) (by simp), Hp.get_new, if_pos rfl]
  obtain ⟨fr3, e3, d⟩ := f3_ok (k := 7000) (h := h1) (fr := fr2) (call := evalT F2 7000) (by rw [c 2 (by omega), b 2 (by omega)]; exact a2) hx1
  generalize hh2 : h1.put h.next ⟨actC (noKids x), .own⟩ = h2 at e3
  have n2 : h2.next = h.next + 2 := by rw [← hh2]; simp [n1]
  have k2 : Kept h1 h2 [h.next] := ⟨by rw [← hh2]; simp, fun y _ hy => by rw [← hh2, Hp.get_put, if_neg (by simpa using hy)]⟩
  have A2 : AAt h2 (h.next + 1) 60 [] [] [] := A1.kept k2 (by simp)
  have hx2 : h2.get h.next = some ⟨actC (noKids x), .own⟩ := by rw [← hh2, Hp.get_put, if_pos rfl]
  obtain ⟨h3, en3, k3⟩ := node_ok (n := 7000) (by omega) (h := h2) (noKids x)
  obtain ⟨fr4, e4, s7, f⟩ := f4_ok (F := F2) (fr := fr3) (by rw [d 2 (by omega), c 2 (by omega), b 2 (by omega)]; exact a2) hx2 en3
  generalize hm : actNd (noKids x) = m at *
  generalize hh4 : h3.new ⟨nodeC m, .own⟩ = h4 at e4
  have k4 : Kept h2 h4 [] := ⟨by rw [← hh4]; simp; have := k3.1; omega, fun y hy _ => by rw [← hh4, get_new_ne (Nat.lt_of_lt_of_le hy k3.1), k3.2 y hy (by simp)]⟩
  have A4 : AAt h4 (h.next + 1) 60 [] [] [] := A2.kept k4 (by simp)
  have hx4 : h4.get h3.next = some ⟨nodeC m, .own⟩ := by rw [← hh4, Hp.get_new, if_pos rfl]
  obtain ⟨h5, en5, k5⟩ := given_ok (n := 7000) (by omega) (h := h4) m
  have A5 : AAt h5 (h.next + 1) 60 [] [] [] := A4.kept k5 (by simp)
  have hkids : (norm m).kids = List.replicate 8 0 := by
    rw [← hm]
    unfold norm
    split <;> rfl
  have hall : (norm m).kids.all (kidOk []) = true := by rw [hkids]; rfl
  obtain ⟨h6, id, S1, b', em, hnew, A6, k6, hb'⟩ := (make_ok (n := 7000) A5 (by simp) (by simp [total]) (by omega) m).2.2 hall (by have : freeOf [] = [] := rfl; rw [this]; simp)
  obtain ⟨fr5, e5, s8, s9, g⟩ := f5_ok (F := F2) (fr := fr4) (by rw [f 5 (by omega), d 5 (by omega), c 5 (by omega)]; exact b5) s7 hx4 en5 em
  -- what is kept from here on
  have hstay : Stays id (norm m) 1 (incs S1 (norm m).kids) := by
    obtain ⟨h0, p1, hr, ha, hn, hnd⟩ := hnew.facts
    have acc := make_account hnew hall (x := id) (c := 0) (by omega) (by rw [h0]; rfl)
    rw [if_pos rfl] at acc
    obtain ⟨t1, t2⟩ := new_total hnew
    obtain ⟨l1, l2, _⟩ := incs_facts S1 (norm m).kids
    refine ⟨p1, by rw [acc], by rw [incs_nd]; exact hnd, by rw [l1]; simpa using t2, ?_⟩
    have := (norm m).hk
    have : total [] = 0 := rfl
    omega
  have hrp : rf (incs S1 (norm m).kids) id ≠ 0 := by have := hstay.acc; omega
  obtain ⟨_, _, y, _, hy, hat⟩ := rf_pos hrp
  have hym : y.1 = norm m := by
    have := hstay.nd
    unfold ndOf at this
    rw [hat] at this
    simpa using this
  obtain ⟨⟨sl, fl, hA6, hS6, hF6⟩, hnd6, hlt6, hSl6⟩ := A6
  have A6 : AAt h6 (h.next + 1) 60 (incs S1 (norm m).kids) [b'] [] := ⟨⟨sl, fl, hA6, hS6, hF6⟩, hnd6, hlt6, hSl6⟩
  have ea := (at_ok (n := 7000) (by omega) hA6 hS6 hSl6 (hlt6 _ (by simp)) (fun b hb => hlt6 b (by simp at hb; simp [hb])) id).2 y hat (by rw [hy]; exact hrp)
  rw [hym] at ea
  obtain ⟨fr6, e6, s10, s11, g2⟩ := f6_ok (F := F2) (fr := fr5) (by rw [g 5 (by omega), f 5 (by omega), d 5 (by omega), c 5 (by omega)]; exact b5) s8 ea
  generalize hh7 : (h6.new ⟨nodeC (norm m), .own⟩).new ⟨nodeC (norm m), .own⟩ = h7 at e6
  have k7 : Kept h6 h7 [] := ⟨by rw [← hh7]; simp <;> omega, fun c hc _ => by rw [← hh7, get_new_ne (by simp <;> omega), get_new_ne hc]⟩
  have A7 : AAt h7 (h.next + 1) 60 (incs S1 (norm m).kids) [b'] [] := A6.kept k7 (by simp)
  have n7 : h7.next = h6.next + 2 := by rw [← hh7]; simp
  obtain ⟨fr7, e7, g3⟩ := f7_ok (k := 7000) (h := h7) (fr := fr6) (call := evalT F2 7000) (by rw [g2 9 (by omega)]; exact s9) s11
  obtain ⟨fr8, e8, s12, g4⟩ := f8_ok (k := 7000) (h := h7) (fr := fr7) (call := evalT F2 7000)
  have low : ∀ t, t < 3 → fr8.get t = fr0.get t := fun t ht => by rw [g4 t (by omega), g3 t (by omega), g2 t (by omega), g t (by omega), f t (by omega), d t (by omega), c t (by omega), b t ht]
  have hI : StaI acts base cap q (h.next + 1) (h6.new ⟨nodeC (norm m), .own⟩).next id (norm m) 60 fr8 h7 := by
    refine ⟨0, _, [b'], [], rfl, by omega, by rw [low 1 (by omega)]; exact a1, ?_, ?_, ?_, s12, A7, hstay, ?_, ?_, ?_, fun hne => ?_⟩
    · rw [g4 5 (by omega), g3 5 (by omega), g2 5 (by omega), g 5 (by omega), f 5 (by omega), d 5 (by omega), c 5 (by omega)]; exact b5
    · rw [g4 8 (by omega), g3 8 (by omega), g2 8 (by omega)]; exact s8
    · rw [g4 10 (by omega), g3 10 (by omega)]; exact s10
    · rw [← hh7, Hp.get_new, if_pos rfl]
    · rw [n7]; simp
    · intro hh
      have h1 := hlt6 (h.next + 1) (by simp)
      have h2 := hlt6 b' (by simp)
      simp at hh
      omega
    · obtain ⟨r1, r2, r3⟩ := hq hne
      have z1 : q < h2.next := by omega
      have z4 : q < h4.next := Nat.lt_of_lt_of_le z1 k4.1
      have z5 : q < h5.next := Nat.lt_of_lt_of_le z4 k5.1
      have z6 : q < h6.next := Nat.lt_of_lt_of_le z5 k6.1
      refine ⟨r1, ?_, Nat.lt_of_lt_of_le z6 k7.1, ?_⟩
      · rw [k7.2 q z6 (by simp), k6.2 q z5 (by simp; omega), k5.2 q z4 (by simp), k4.2 q z1 (by simp), k2.2 q (by omega) (by simp; omega), k1.2 q (by omega) (by simp), get_new_ne r3]
        exact r2
      · intro hh
        have := k4.1
        have := k5.1
        simp at hh hb'
        omega
  obtain ⟨xx, fr9, h9, hit, _, rfl⟩ := iter_inv (body := evalS (evalT F2 7000) 7000 s4_l0) (StaI acts base cap q (h.next + 1) (h6.new ⟨nodeC (norm m), .own⟩).next id (norm m)) (fun x _ _ => x = .exit 0)
    (fun n fr h I => sta_step (k := 7000) (by omega) n fr h I) 7000 60 fr8 h7 (by omega) hI
  obtain ⟨fr10, e10, r4⟩ := f9_ok (k := 7000) (h := h9) (fr := fr9) (by omega)
  refine ⟨h9, ?_⟩
  rw [evalFn_text F2_stays, f_eq]
  simp only [evalS, e0, e1, e2, e3, e4, e5, e6, e7, e8, hit, if_true, e10]
  simp only [s4, evalT_fn, BK.hid, cond_true, cond_false, guess0, List.tail_nil, List.headD_nil, evalS, evalOps, evalOp, evalO, wantedA, opd, opds, optOpd, optInt, putO, frameOf, T.get_set, T.get_nil, Option.map_some, Option.map_none, Nat.reduceEqDiff, if_true, if_false, reduceIte, reduceCtorEq, Nat.reduceAdd, resA, oneOrTuple, binA, binInt, eqA, lenA, capA, unA, partA, partsA, fillA, sliceA, bounds_none, bounds_lo, bounds_hi, bounds_lohi, evalDreg_false, List.take_succ_cons, List.take_zero, List.take_nil, List.drop_zero, List.drop_succ_cons, List.drop_nil, AV.beq, eq_self, hoist, evalD, O.cls, readsOk, List.tail_cons, List.headD_cons, List.nil_append, List.cons_append, List.getLast?_cons_cons, List.getLast?_singleton, Nat.sub_zero, Int.toNat_natCast, ite_self, Nat.add_zero, Nat.zero_add, Nat.zero_mul, r4]

end Go.Proofs.Ytchffjnmkpedkaa
