/-
  PagesMakes: the run of the law for any room and any number of codes. Own work of this session.
-/
import Derived.Test.YtchffjnmkpedkaaTb
import Derived.Test.YtchffjnmkpedkaaLv
set_option linter.unusedSectionVars false
set_option linter.unusedSimpArgs false
set_option linter.unusedVariables false
namespace Go.Proofs.Ytchffjnmkpedkaa
set_option linter.unusedSectionVars false
open Go.Lite Go.RowKit
set_option linter.unusedVariables false
set_option maxHeartbeats 4000000
set_option maxRecDepth 10000
set_option linter.unusedSimpArgs false

/-- A call without arguments that is known to be true. -/
def trueA : List AV → Hp → Option (AV × Hp)
  | [], h => some (.bool true, h)
  | _, _ => none

theorem trueA_ok {F : FuncId → Option Def} (hF : ∀ f d, F f = some d → DefOk Try.prog f d) {f : FuncId} (hf : Enters Try.prog f) {n : Nat} (he : (evalFn F n f [] Hp.empty).map (·.1) = some (.bool true)) : DefOk Try.prog f (.prim trueA) := by
  refine ⟨hf, ?_⟩
  intro args h v h' e ρ w args' H r
  unfold trueA at e
  split at e
  case h_2 => cases e
  cases e
  cases hq : evalFn F n f [] Hp.empty with
  | none => rw [hq] at he; cases he
  | some q =>
    obtain ⟨v, h1⟩ := q
    rw [hq] at he
    simp only [Option.map_some, Option.some.injEq] at he
    subst he
    exact closed_prim (evalT_ok mixed ctxOk hF n) hf hq (fun ρ args' r => by cases r; exact .nil) (fun ρ u r ρ2 => by cases r; exact .bool _) H r

/-- As F1; what is known is known. -/
def F2 (f : FuncId) : Option Def := if f = 20 then some (.prim trueA) else if f = 30 then some (.prim trueA) else F1 f

theorem F2_ok : ∀ f d, F2 f = some d → DefOk Try.prog f d := by
  intro f d h
  unfold F2 at h
  split at h
  · rename_i e; subst e; cases h; exact trueA_ok F1_ok Try.call20 run9
  · split at h
    · rename_i e; subst e; cases h; exact trueA_ok F1_ok Try.call30 run10
    · exact F1_ok f d h

theorem F2_law : F2 7 = some (.text s7) := rfl
theorem F2_arena : F2 13 = some (.text s13) := rfl
theorem F2_pages : F2 29 = some (.text s29) := rfl
theorem F2_known : F2 30 = some (.prim trueA) := rfl

theorem F2_levels : F2 34 = some (.text s34) := rfl
theorem F2_pa : F2 31 = some (.text s31) := rfl
theorem F2_pc : F2 32 = some (.text s32) := rfl
theorem F2_pl : F2 33 = some (.text s33) := rfl

theorem new_bad {n : Nat} (hn : 0 < n) (room : Int) (h : Hp) (hr : room < 1 ∨ room > 20000) : evalFn F2 n 13 [.int .i64 room] h = some (.tuple [.ptr none, .int .i64 2], h) := by
  obtain ⟨k, rfl⟩ : ∃ k, n = k + 1 := ⟨n - 1, by omega⟩
  have h1 : (decide (room < 1) = true) ∨ (decide (room < 1) = false ∧ decide (room > 20000) = true) := by
    rcases hr with h | h
    · exact .inl (by simp [h])
    · exact .inr ⟨by simp; omega, by simp [h]⟩
  rcases h1 with h1 | ⟨h1, h2⟩
  · simp only [evalFn_text F2_arena, evalT_fn, BK.hid, cond_true, cond_false, guess0, List.tail_nil, List.headD_nil, evalS, evalOps, evalOp, evalO, wantedA, opd, opds, optOpd, optInt, putO, frameOf, T.get_set, T.get_nil, Option.map_some, Option.map_none, Nat.reduceEqDiff, if_true, if_false, reduceIte, reduceCtorEq, Nat.reduceAdd, resA, oneOrTuple, binA, binInt, eqA, lenA, capA, unA, partA, partsA, fillA, sliceA, bounds_none, bounds_lo, bounds_hi, bounds_lohi, evalDreg, hoist, evalD, O.cls, readsOk, List.tail_cons, List.headD_cons, List.nil_append, List.cons_append, List.getLast?_cons_cons, List.getLast?_singleton, Nat.sub_zero, Int.toNat_natCast, ite_self, Nat.add_zero, Nat.zero_add, Nat.zero_mul, Option.isNone_none, Option.isNone_some, Option.isSome_none, Option.isSome_some, Int.reduceBEq, Int.reduceBNe, Int.reduceLT, Int.reduceLE, Int.reduceGT, Int.reduceGE, Int.reduceEq, decide_true, decide_false, Bool.not_true, Bool.not_false, Int.reduceMul, Int.reduceAdd, Int.reduceSub, Int.reduceToNat, Nat.reduceMul, Nat.reduceSub, Nat.reduceLT, Nat.reduceLeDiff, beq_self_eq_true, bne_self_eq_false, Bool.true_beq, Bool.false_beq, ne_eq, not_true_eq_false, not_false_eq_true, Bool.false_eq_true, Bool.or_self, or_self, AV.cells, AV.one, List.all_cons, List.all_nil, Bool.and_true, Bool.true_and, List.length_cons, List.length_nil, splice, List.set_cons_zero, List.set_cons_succ, Nat.le_refl, Nat.reduceLeDiff, iter_succ, Hp.get_new, Hp.get_put, Hp.get_kill, Hp.next_new, Hp.next_put, Hp.next_kill, Hp.put_new, Hp.put_put, readA, readK, loadA, Hp.cell, Hp.cells, Hp.write, List.getElem?_cons_zero, List.getElem?_cons_succ, Bool.and_self, and_self, and_true, true_and, s13, h1]
  · simp only [evalFn_text F2_arena, evalT_fn, BK.hid, cond_true, cond_false, guess0, List.tail_nil, List.headD_nil, evalS, evalOps, evalOp, evalO, wantedA, opd, opds, optOpd, optInt, putO, frameOf, T.get_set, T.get_nil, Option.map_some, Option.map_none, Nat.reduceEqDiff, if_true, if_false, reduceIte, reduceCtorEq, Nat.reduceAdd, resA, oneOrTuple, binA, binInt, eqA, lenA, capA, unA, partA, partsA, fillA, sliceA, bounds_none, bounds_lo, bounds_hi, bounds_lohi, evalDreg, hoist, evalD, O.cls, readsOk, List.tail_cons, List.headD_cons, List.nil_append, List.cons_append, List.getLast?_cons_cons, List.getLast?_singleton, Nat.sub_zero, Int.toNat_natCast, ite_self, Nat.add_zero, Nat.zero_add, Nat.zero_mul, Option.isNone_none, Option.isNone_some, Option.isSome_none, Option.isSome_some, Int.reduceBEq, Int.reduceBNe, Int.reduceLT, Int.reduceLE, Int.reduceGT, Int.reduceGE, Int.reduceEq, decide_true, decide_false, Bool.not_true, Bool.not_false, Int.reduceMul, Int.reduceAdd, Int.reduceSub, Int.reduceToNat, Nat.reduceMul, Nat.reduceSub, Nat.reduceLT, Nat.reduceLeDiff, beq_self_eq_true, bne_self_eq_false, Bool.true_beq, Bool.false_beq, ne_eq, not_true_eq_false, not_false_eq_true, Bool.false_eq_true, Bool.or_self, or_self, AV.cells, AV.one, List.all_cons, List.all_nil, Bool.and_true, Bool.true_and, List.length_cons, List.length_nil, splice, List.set_cons_zero, List.set_cons_succ, Nat.le_refl, Nat.reduceLeDiff, iter_succ, Hp.get_new, Hp.get_put, Hp.get_kill, Hp.next_new, Hp.next_put, Hp.next_kill, Hp.put_new, Hp.put_put, readA, readK, loadA, Hp.cell, Hp.cells, Hp.write, List.getElem?_cons_zero, List.getElem?_cons_succ, Bool.and_self, and_self, and_true, true_and, s13, h1, h2]

theorem new_ok {n : Nat} (hn : 0 < n) (room : Int) (h : Hp) (h1 : 1 ≤ room) (h2 : room ≤ 20000) : evalFn F2 n 13 [.int .i64 room] h = some (.tuple [.ptr (some (h.next, 0)), .int .i64 0], h.new ⟨[.int .i64 room, .slice none 0 (.known 0), .slice none 0 (.known 0)], .own⟩) := by
  obtain ⟨k, rfl⟩ : ∃ k, n = k + 1 := ⟨n - 1, by omega⟩
  have h1 : decide (room < 1) = false := by simp; omega
  have h2 : decide (room > 20000) = false := by simp; omega
  simp only [evalFn_text F2_arena, evalT_fn, BK.hid, cond_true, cond_false, guess0, List.tail_nil, List.headD_nil, evalS, evalOps, evalOp, evalO, wantedA, opd, opds, optOpd, optInt, putO, frameOf, T.get_set, T.get_nil, Option.map_some, Option.map_none, Nat.reduceEqDiff, if_true, if_false, reduceIte, reduceCtorEq, Nat.reduceAdd, resA, oneOrTuple, binA, binInt, eqA, lenA, capA, unA, partA, partsA, fillA, sliceA, bounds_none, bounds_lo, bounds_hi, bounds_lohi, evalDreg, hoist, evalD, O.cls, readsOk, List.tail_cons, List.headD_cons, List.nil_append, List.cons_append, List.getLast?_cons_cons, List.getLast?_singleton, Nat.sub_zero, Int.toNat_natCast, ite_self, Nat.add_zero, Nat.zero_add, Nat.zero_mul, Option.isNone_none, Option.isNone_some, Option.isSome_none, Option.isSome_some, Int.reduceBEq, Int.reduceBNe, Int.reduceLT, Int.reduceLE, Int.reduceGT, Int.reduceGE, Int.reduceEq, decide_true, decide_false, Bool.not_true, Bool.not_false, Int.reduceMul, Int.reduceAdd, Int.reduceSub, Int.reduceToNat, Nat.reduceMul, Nat.reduceSub, Nat.reduceLT, Nat.reduceLeDiff, beq_self_eq_true, bne_self_eq_false, Bool.true_beq, Bool.false_beq, ne_eq, not_true_eq_false, not_false_eq_true, Bool.false_eq_true, Bool.or_self, or_self, AV.cells, AV.one, List.all_cons, List.all_nil, Bool.and_true, Bool.true_and, List.length_cons, List.length_nil, splice, List.set_cons_zero, List.set_cons_succ, Nat.le_refl, Nat.reduceLeDiff, iter_succ, Hp.get_new, Hp.get_put, Hp.get_kill, Hp.next_new, Hp.next_put, Hp.next_kill, Hp.put_new, Hp.put_put, readA, readK, loadA, Hp.cell, Hp.cells, Hp.write, List.getElem?_cons_zero, List.getElem?_cons_succ, Bool.and_self, and_self, and_true, true_and, s13, h1, h2]

theorem pnew_bad {n : Nat} (hn : 0 < n) (a : Nat × Nat) (codes : Int) (h : Hp) (hr : codes < 1 ∨ codes > 1024) : evalFn F2 n 29 [.ptr (some a), .int .i64 codes] h = some (.tuple [.ptr none, .int .i64 2], h) := by
  obtain ⟨k, rfl⟩ : ∃ k, n = k + 1 := ⟨n - 1, by omega⟩
  have h1 : (decide (codes < 1) = true) ∨ (decide (codes < 1) = false ∧ decide (codes > 1024) = true) := by
    rcases hr with h | h
    · exact .inl (by simp [h])
    · exact .inr ⟨by simp; omega, by simp [h]⟩
  rcases h1 with h1 | ⟨h1, h2⟩
  · simp only [evalFn_text F2_pages, evalT_fn, BK.hid, cond_true, cond_false, guess0, List.tail_nil, List.headD_nil, evalS, evalOps, evalOp, evalO, wantedA, opd, opds, optOpd, optInt, putO, frameOf, T.get_set, T.get_nil, Option.map_some, Option.map_none, Nat.reduceEqDiff, if_true, if_false, reduceIte, reduceCtorEq, Nat.reduceAdd, resA, oneOrTuple, binA, binInt, eqA, lenA, capA, unA, partA, partsA, fillA, sliceA, bounds_none, bounds_lo, bounds_hi, bounds_lohi, evalDreg, hoist, evalD, O.cls, readsOk, List.tail_cons, List.headD_cons, List.nil_append, List.cons_append, List.getLast?_cons_cons, List.getLast?_singleton, Nat.sub_zero, Int.toNat_natCast, ite_self, Nat.add_zero, Nat.zero_add, Nat.zero_mul, Option.isNone_none, Option.isNone_some, Option.isSome_none, Option.isSome_some, Int.reduceBEq, Int.reduceBNe, Int.reduceLT, Int.reduceLE, Int.reduceGT, Int.reduceGE, Int.reduceEq, decide_true, decide_false, Bool.not_true, Bool.not_false, Int.reduceMul, Int.reduceAdd, Int.reduceSub, Int.reduceToNat, Nat.reduceMul, Nat.reduceSub, Nat.reduceLT, Nat.reduceLeDiff, beq_self_eq_true, bne_self_eq_false, Bool.true_beq, Bool.false_beq, ne_eq, not_true_eq_false, not_false_eq_true, Bool.false_eq_true, Bool.or_self, or_self, AV.cells, AV.one, List.all_cons, List.all_nil, Bool.and_true, Bool.true_and, List.length_cons, List.length_nil, splice, List.set_cons_zero, List.set_cons_succ, Nat.le_refl, Nat.reduceLeDiff, iter_succ, Hp.get_new, Hp.get_put, Hp.get_kill, Hp.next_new, Hp.next_put, Hp.next_kill, Hp.put_new, Hp.put_put, readA, readK, loadA, Hp.cell, Hp.cells, Hp.write, List.getElem?_cons_zero, List.getElem?_cons_succ, Bool.and_self, and_self, and_true, true_and, s29, h1]
  · simp only [evalFn_text F2_pages, evalT_fn, BK.hid, cond_true, cond_false, guess0, List.tail_nil, List.headD_nil, evalS, evalOps, evalOp, evalO, wantedA, opd, opds, optOpd, optInt, putO, frameOf, T.get_set, T.get_nil, Option.map_some, Option.map_none, Nat.reduceEqDiff, if_true, if_false, reduceIte, reduceCtorEq, Nat.reduceAdd, resA, oneOrTuple, binA, binInt, eqA, lenA, capA, unA, partA, partsA, fillA, sliceA, bounds_none, bounds_lo, bounds_hi, bounds_lohi, evalDreg, hoist, evalD, O.cls, readsOk, List.tail_cons, List.headD_cons, List.nil_append, List.cons_append, List.getLast?_cons_cons, List.getLast?_singleton, Nat.sub_zero, Int.toNat_natCast, ite_self, Nat.add_zero, Nat.zero_add, Nat.zero_mul, Option.isNone_none, Option.isNone_some, Option.isSome_none, Option.isSome_some, Int.reduceBEq, Int.reduceBNe, Int.reduceLT, Int.reduceLE, Int.reduceGT, Int.reduceGE, Int.reduceEq, decide_true, decide_false, Bool.not_true, Bool.not_false, Int.reduceMul, Int.reduceAdd, Int.reduceSub, Int.reduceToNat, Nat.reduceMul, Nat.reduceSub, Nat.reduceLT, Nat.reduceLeDiff, beq_self_eq_true, bne_self_eq_false, Bool.true_beq, Bool.false_beq, ne_eq, not_true_eq_false, not_false_eq_true, Bool.false_eq_true, Bool.or_self, or_self, AV.cells, AV.one, List.all_cons, List.all_nil, Bool.and_true, Bool.true_and, List.length_cons, List.length_nil, splice, List.set_cons_zero, List.set_cons_succ, Nat.le_refl, Nat.reduceLeDiff, iter_succ, Hp.get_new, Hp.get_put, Hp.get_kill, Hp.next_new, Hp.next_put, Hp.next_kill, Hp.put_new, Hp.put_put, readA, readK, loadA, Hp.cell, Hp.cells, Hp.write, List.getElem?_cons_zero, List.getElem?_cons_succ, Bool.and_self, and_self, and_true, true_and, s29, h1, h2]

theorem pnew_nil {n : Nat} (hn : 0 < n) (codes : Int) (h : Hp) : evalFn F2 n 29 [.ptr none, .int .i64 codes] h = some (.tuple [.ptr none, .int .i64 1], h) := by
  obtain ⟨k, rfl⟩ : ∃ k, n = k + 1 := ⟨n - 1, by omega⟩
  simp only [evalFn_text F2_pages, evalT_fn, BK.hid, cond_true, cond_false, guess0, List.tail_nil, List.headD_nil, evalS, evalOps, evalOp, evalO, wantedA, opd, opds, optOpd, optInt, putO, frameOf, T.get_set, T.get_nil, Option.map_some, Option.map_none, Nat.reduceEqDiff, if_true, if_false, reduceIte, reduceCtorEq, Nat.reduceAdd, resA, oneOrTuple, binA, binInt, eqA, lenA, capA, unA, partA, partsA, fillA, sliceA, bounds_none, bounds_lo, bounds_hi, bounds_lohi, evalDreg, hoist, evalD, O.cls, readsOk, List.tail_cons, List.headD_cons, List.nil_append, List.cons_append, List.getLast?_cons_cons, List.getLast?_singleton, Nat.sub_zero, Int.toNat_natCast, ite_self, Nat.add_zero, Nat.zero_add, Nat.zero_mul, Option.isNone_none, Option.isNone_some, Option.isSome_none, Option.isSome_some, Int.reduceBEq, Int.reduceBNe, Int.reduceLT, Int.reduceLE, Int.reduceGT, Int.reduceGE, Int.reduceEq, decide_true, decide_false, Bool.not_true, Bool.not_false, Int.reduceMul, Int.reduceAdd, Int.reduceSub, Int.reduceToNat, Nat.reduceMul, Nat.reduceSub, Nat.reduceLT, Nat.reduceLeDiff, beq_self_eq_true, bne_self_eq_false, Bool.true_beq, Bool.false_beq, ne_eq, not_true_eq_false, not_false_eq_true, Bool.false_eq_true, Bool.or_self, or_self, AV.cells, AV.one, List.all_cons, List.all_nil, Bool.and_true, Bool.true_and, List.length_cons, List.length_nil, splice, List.set_cons_zero, List.set_cons_succ, Nat.le_refl, Nat.reduceLeDiff, iter_succ, Hp.get_new, Hp.get_put, Hp.get_kill, Hp.next_new, Hp.next_put, Hp.next_kill, Hp.put_new, Hp.put_put, readA, readK, loadA, Hp.cell, Hp.cells, Hp.write, List.getElem?_cons_zero, List.getElem?_cons_succ, Bool.and_self, and_self, and_true, true_and, s29]

theorem pnew_ok1 {n : Nat} (hn : 9 < n) (a : Nat × Nat) (codes : Int) (h : Hp) (h1 : 0 < codes) (h2 : codes ≤ 8) : evalFn F2 n 29 [.ptr (some a), .int .i64 codes] h = some (.tuple [.ptr (some (h.next, 0)), .int .i64 0], h.new ⟨[.ptr (some a), .int .i64 codes, .int .i64 1, .int .i64 8], .own⟩) := by
  obtain ⟨k, rfl⟩ : ∃ k, n = k + 8 + 1 := ⟨n - 9, by omega⟩
  have g1 : decide (codes < 1) = false := by simp; omega
  have g2 : decide (codes > 1024) = false := by simp; omega
  have c1 : decide (8 < codes) = false := by simp; omega
  simp only [evalFn_text F2_pages, evalT_fn, BK.hid, cond_true, cond_false, guess0, List.tail_nil, List.headD_nil, evalS, evalOps, evalOp, evalO, wantedA, opd, opds, optOpd, optInt, putO, frameOf, T.get_set, T.get_nil, Option.map_some, Option.map_none, Nat.reduceEqDiff, if_true, if_false, reduceIte, reduceCtorEq, Nat.reduceAdd, resA, oneOrTuple, binA, binInt, eqA, lenA, capA, unA, partA, partsA, fillA, sliceA, bounds_none, bounds_lo, bounds_hi, bounds_lohi, evalDreg, hoist, evalD, O.cls, readsOk, List.tail_cons, List.headD_cons, List.nil_append, List.cons_append, List.getLast?_cons_cons, List.getLast?_singleton, Nat.sub_zero, Int.toNat_natCast, ite_self, Nat.add_zero, Nat.zero_add, Nat.zero_mul, Option.isNone_none, Option.isNone_some, Option.isSome_none, Option.isSome_some, Int.reduceBEq, Int.reduceBNe, Int.reduceLT, Int.reduceLE, Int.reduceGT, Int.reduceGE, Int.reduceEq, decide_true, decide_false, Bool.not_true, Bool.not_false, Int.reduceMul, Int.reduceAdd, Int.reduceSub, Int.reduceToNat, Nat.reduceMul, Nat.reduceSub, Nat.reduceLT, Nat.reduceLeDiff, beq_self_eq_true, bne_self_eq_false, Bool.true_beq, Bool.false_beq, ne_eq, not_true_eq_false, not_false_eq_true, Bool.false_eq_true, Bool.or_self, or_self, AV.cells, AV.one, List.all_cons, List.all_nil, Bool.and_true, Bool.true_and, List.length_cons, List.length_nil, splice, List.set_cons_zero, List.set_cons_succ, Nat.le_refl, Nat.reduceLeDiff, iter_succ, Hp.get_new, Hp.get_put, Hp.get_kill, Hp.next_new, Hp.next_put, Hp.next_kill, Hp.put_new, Hp.put_put, readA, readK, loadA, Hp.cell, Hp.cells, Hp.write, List.getElem?_cons_zero, List.getElem?_cons_succ, Bool.and_self, and_self, and_true, true_and, s29, s29_l0, g1, g2, c1]

theorem pnew_ok2 {n : Nat} (hn : 9 < n) (a : Nat × Nat) (codes : Int) (h : Hp) (h1 : 8 < codes) (h2 : codes ≤ 64) : evalFn F2 n 29 [.ptr (some a), .int .i64 codes] h = some (.tuple [.ptr (some (h.next, 0)), .int .i64 0], h.new ⟨[.ptr (some a), .int .i64 codes, .int .i64 2, .int .i64 64], .own⟩) := by
  obtain ⟨k, rfl⟩ : ∃ k, n = k + 8 + 1 := ⟨n - 9, by omega⟩
  have g1 : decide (codes < 1) = false := by simp; omega
  have g2 : decide (codes > 1024) = false := by simp; omega
  have c1 : decide (8 < codes) = true := by simp; omega
  have c2 : decide (64 < codes) = false := by simp; omega
  have w2 : IntKind.i64.wrap 64 = 64 := by decide +kernel
  have v2 : IntKind.i64.wrap 2 = 2 := by decide +kernel
  simp only [evalFn_text F2_pages, evalT_fn, BK.hid, cond_true, cond_false, guess0, List.tail_nil, List.headD_nil, evalS, evalOps, evalOp, evalO, wantedA, opd, opds, optOpd, optInt, putO, frameOf, T.get_set, T.get_nil, Option.map_some, Option.map_none, Nat.reduceEqDiff, if_true, if_false, reduceIte, reduceCtorEq, Nat.reduceAdd, resA, oneOrTuple, binA, binInt, eqA, lenA, capA, unA, partA, partsA, fillA, sliceA, bounds_none, bounds_lo, bounds_hi, bounds_lohi, evalDreg, hoist, evalD, O.cls, readsOk, List.tail_cons, List.headD_cons, List.nil_append, List.cons_append, List.getLast?_cons_cons, List.getLast?_singleton, Nat.sub_zero, Int.toNat_natCast, ite_self, Nat.add_zero, Nat.zero_add, Nat.zero_mul, Option.isNone_none, Option.isNone_some, Option.isSome_none, Option.isSome_some, Int.reduceBEq, Int.reduceBNe, Int.reduceLT, Int.reduceLE, Int.reduceGT, Int.reduceGE, Int.reduceEq, decide_true, decide_false, Bool.not_true, Bool.not_false, Int.reduceMul, Int.reduceAdd, Int.reduceSub, Int.reduceToNat, Nat.reduceMul, Nat.reduceSub, Nat.reduceLT, Nat.reduceLeDiff, beq_self_eq_true, bne_self_eq_false, Bool.true_beq, Bool.false_beq, ne_eq, not_true_eq_false, not_false_eq_true, Bool.false_eq_true, Bool.or_self, or_self, AV.cells, AV.one, List.all_cons, List.all_nil, Bool.and_true, Bool.true_and, List.length_cons, List.length_nil, splice, List.set_cons_zero, List.set_cons_succ, Nat.le_refl, Nat.reduceLeDiff, iter_succ, Hp.get_new, Hp.get_put, Hp.get_kill, Hp.next_new, Hp.next_put, Hp.next_kill, Hp.put_new, Hp.put_put, readA, readK, loadA, Hp.cell, Hp.cells, Hp.write, List.getElem?_cons_zero, List.getElem?_cons_succ, Bool.and_self, and_self, and_true, true_and, s29, s29_l0, g1, g2, c1, c2, w2, v2]

theorem pnew_ok3 {n : Nat} (hn : 9 < n) (a : Nat × Nat) (codes : Int) (h : Hp) (h1 : 64 < codes) (h2 : codes ≤ 512) : evalFn F2 n 29 [.ptr (some a), .int .i64 codes] h = some (.tuple [.ptr (some (h.next, 0)), .int .i64 0], h.new ⟨[.ptr (some a), .int .i64 codes, .int .i64 3, .int .i64 512], .own⟩) := by
  obtain ⟨k, rfl⟩ : ∃ k, n = k + 8 + 1 := ⟨n - 9, by omega⟩
  have g1 : decide (codes < 1) = false := by simp; omega
  have g2 : decide (codes > 1024) = false := by simp; omega
  have c1 : decide (8 < codes) = true := by simp; omega
  have c2 : decide (64 < codes) = true := by simp; omega
  have c3 : decide (512 < codes) = false := by simp; omega
  have w2 : IntKind.i64.wrap 64 = 64 := by decide +kernel
  have v2 : IntKind.i64.wrap 2 = 2 := by decide +kernel
  have w3 : IntKind.i64.wrap 512 = 512 := by decide +kernel
  have v3 : IntKind.i64.wrap 3 = 3 := by decide +kernel
  simp only [evalFn_text F2_pages, evalT_fn, BK.hid, cond_true, cond_false, guess0, List.tail_nil, List.headD_nil, evalS, evalOps, evalOp, evalO, wantedA, opd, opds, optOpd, optInt, putO, frameOf, T.get_set, T.get_nil, Option.map_some, Option.map_none, Nat.reduceEqDiff, if_true, if_false, reduceIte, reduceCtorEq, Nat.reduceAdd, resA, oneOrTuple, binA, binInt, eqA, lenA, capA, unA, partA, partsA, fillA, sliceA, bounds_none, bounds_lo, bounds_hi, bounds_lohi, evalDreg, hoist, evalD, O.cls, readsOk, List.tail_cons, List.headD_cons, List.nil_append, List.cons_append, List.getLast?_cons_cons, List.getLast?_singleton, Nat.sub_zero, Int.toNat_natCast, ite_self, Nat.add_zero, Nat.zero_add, Nat.zero_mul, Option.isNone_none, Option.isNone_some, Option.isSome_none, Option.isSome_some, Int.reduceBEq, Int.reduceBNe, Int.reduceLT, Int.reduceLE, Int.reduceGT, Int.reduceGE, Int.reduceEq, decide_true, decide_false, Bool.not_true, Bool.not_false, Int.reduceMul, Int.reduceAdd, Int.reduceSub, Int.reduceToNat, Nat.reduceMul, Nat.reduceSub, Nat.reduceLT, Nat.reduceLeDiff, beq_self_eq_true, bne_self_eq_false, Bool.true_beq, Bool.false_beq, ne_eq, not_true_eq_false, not_false_eq_true, Bool.false_eq_true, Bool.or_self, or_self, AV.cells, AV.one, List.all_cons, List.all_nil, Bool.and_true, Bool.true_and, List.length_cons, List.length_nil, splice, List.set_cons_zero, List.set_cons_succ, Nat.le_refl, Nat.reduceLeDiff, iter_succ, Hp.get_new, Hp.get_put, Hp.get_kill, Hp.next_new, Hp.next_put, Hp.next_kill, Hp.put_new, Hp.put_put, readA, readK, loadA, Hp.cell, Hp.cells, Hp.write, List.getElem?_cons_zero, List.getElem?_cons_succ, Bool.and_self, and_self, and_true, true_and, s29, s29_l0, g1, g2, c1, c2, c3, w2, v2, w3, v3]

theorem pnew_ok4 {n : Nat} (hn : 9 < n) (a : Nat × Nat) (codes : Int) (h : Hp) (h1 : 512 < codes) (h2 : codes ≤ 1024) : evalFn F2 n 29 [.ptr (some a), .int .i64 codes] h = some (.tuple [.ptr (some (h.next, 0)), .int .i64 0], h.new ⟨[.ptr (some a), .int .i64 codes, .int .i64 4, .int .i64 4096], .own⟩) := by
  obtain ⟨k, rfl⟩ : ∃ k, n = k + 8 + 1 := ⟨n - 9, by omega⟩
  have g1 : decide (codes < 1) = false := by simp; omega
  have g2 : decide (codes > 1024) = false := by simp; omega
  have c1 : decide (8 < codes) = true := by simp; omega
  have c2 : decide (64 < codes) = true := by simp; omega
  have c3 : decide (512 < codes) = true := by simp; omega
  have c4 : decide (4096 < codes) = false := by simp; omega
  have w2 : IntKind.i64.wrap 64 = 64 := by decide +kernel
  have v2 : IntKind.i64.wrap 2 = 2 := by decide +kernel
  have w3 : IntKind.i64.wrap 512 = 512 := by decide +kernel
  have v3 : IntKind.i64.wrap 3 = 3 := by decide +kernel
  have w4 : IntKind.i64.wrap 4096 = 4096 := by decide +kernel
  have v4 : IntKind.i64.wrap 4 = 4 := by decide +kernel
  simp only [evalFn_text F2_pages, evalT_fn, BK.hid, cond_true, cond_false, guess0, List.tail_nil, List.headD_nil, evalS, evalOps, evalOp, evalO, wantedA, opd, opds, optOpd, optInt, putO, frameOf, T.get_set, T.get_nil, Option.map_some, Option.map_none, Nat.reduceEqDiff, if_true, if_false, reduceIte, reduceCtorEq, Nat.reduceAdd, resA, oneOrTuple, binA, binInt, eqA, lenA, capA, unA, partA, partsA, fillA, sliceA, bounds_none, bounds_lo, bounds_hi, bounds_lohi, evalDreg, hoist, evalD, O.cls, readsOk, List.tail_cons, List.headD_cons, List.nil_append, List.cons_append, List.getLast?_cons_cons, List.getLast?_singleton, Nat.sub_zero, Int.toNat_natCast, ite_self, Nat.add_zero, Nat.zero_add, Nat.zero_mul, Option.isNone_none, Option.isNone_some, Option.isSome_none, Option.isSome_some, Int.reduceBEq, Int.reduceBNe, Int.reduceLT, Int.reduceLE, Int.reduceGT, Int.reduceGE, Int.reduceEq, decide_true, decide_false, Bool.not_true, Bool.not_false, Int.reduceMul, Int.reduceAdd, Int.reduceSub, Int.reduceToNat, Nat.reduceMul, Nat.reduceSub, Nat.reduceLT, Nat.reduceLeDiff, beq_self_eq_true, bne_self_eq_false, Bool.true_beq, Bool.false_beq, ne_eq, not_true_eq_false, not_false_eq_true, Bool.false_eq_true, Bool.or_self, or_self, AV.cells, AV.one, List.all_cons, List.all_nil, Bool.and_true, Bool.true_and, List.length_cons, List.length_nil, splice, List.set_cons_zero, List.set_cons_succ, Nat.le_refl, Nat.reduceLeDiff, iter_succ, Hp.get_new, Hp.get_put, Hp.get_kill, Hp.next_new, Hp.next_put, Hp.next_kill, Hp.put_new, Hp.put_put, readA, readK, loadA, Hp.cell, Hp.cells, Hp.write, List.getElem?_cons_zero, List.getElem?_cons_succ, Bool.and_self, and_self, and_true, true_and, s29, s29_l0, g1, g2, c1, c2, c3, c4, w2, v2, w3, v3, w4, v4]

theorem levels_ok1 {n : Nat} (hn : 9 < n) (codes : Int) (h : Hp) (h1 : 0 < codes) (h2 : codes ≤ 8) : evalFn F2 n 34 [.int .i64 codes] h = some (.int .i64 1, h) := by
  obtain ⟨k, rfl⟩ : ∃ k, n = k + 8 + 1 := ⟨n - 9, by omega⟩
  have c1 : decide (8 < codes) = false := by simp; omega
  simp only [evalFn_text F2_levels, evalT_fn, BK.hid, cond_true, cond_false, guess0, List.tail_nil, List.headD_nil, evalS, evalOps, evalOp, evalO, wantedA, opd, opds, optOpd, optInt, putO, frameOf, T.get_set, T.get_nil, Option.map_some, Option.map_none, Nat.reduceEqDiff, if_true, if_false, reduceIte, reduceCtorEq, Nat.reduceAdd, resA, oneOrTuple, binA, binInt, eqA, lenA, capA, unA, partA, partsA, fillA, sliceA, bounds_none, bounds_lo, bounds_hi, bounds_lohi, evalDreg, hoist, evalD, O.cls, readsOk, List.tail_cons, List.headD_cons, List.nil_append, List.cons_append, List.getLast?_cons_cons, List.getLast?_singleton, Nat.sub_zero, Int.toNat_natCast, ite_self, Nat.add_zero, Nat.zero_add, Nat.zero_mul, Option.isNone_none, Option.isNone_some, Option.isSome_none, Option.isSome_some, Int.reduceBEq, Int.reduceBNe, Int.reduceLT, Int.reduceLE, Int.reduceGT, Int.reduceGE, Int.reduceEq, decide_true, decide_false, Bool.not_true, Bool.not_false, Int.reduceMul, Int.reduceAdd, Int.reduceSub, Int.reduceToNat, Nat.reduceMul, Nat.reduceSub, Nat.reduceLT, Nat.reduceLeDiff, beq_self_eq_true, bne_self_eq_false, Bool.true_beq, Bool.false_beq, ne_eq, not_true_eq_false, not_false_eq_true, Bool.false_eq_true, Bool.or_self, or_self, AV.cells, AV.one, List.all_cons, List.all_nil, Bool.and_true, Bool.true_and, List.length_cons, List.length_nil, splice, List.set_cons_zero, List.set_cons_succ, Nat.le_refl, Nat.reduceLeDiff, iter_succ, Hp.get_new, Hp.get_put, Hp.get_kill, Hp.next_new, Hp.next_put, Hp.next_kill, Hp.put_new, Hp.put_put, readA, readK, loadA, Hp.cell, Hp.cells, Hp.write, List.getElem?_cons_zero, List.getElem?_cons_succ, Bool.and_self, and_self, and_true, true_and, s34, s34_l0, c1]

theorem levels_ok2 {n : Nat} (hn : 9 < n) (codes : Int) (h : Hp) (h1 : 8 < codes) (h2 : codes ≤ 64) : evalFn F2 n 34 [.int .i64 codes] h = some (.int .i64 2, h) := by
  obtain ⟨k, rfl⟩ : ∃ k, n = k + 8 + 1 := ⟨n - 9, by omega⟩
  have c1 : decide (8 < codes) = true := by simp; omega
  have c2 : decide (64 < codes) = false := by simp; omega
  have w2 : IntKind.i64.wrap 64 = 64 := by decide +kernel
  have v2 : IntKind.i64.wrap 2 = 2 := by decide +kernel
  simp only [evalFn_text F2_levels, evalT_fn, BK.hid, cond_true, cond_false, guess0, List.tail_nil, List.headD_nil, evalS, evalOps, evalOp, evalO, wantedA, opd, opds, optOpd, optInt, putO, frameOf, T.get_set, T.get_nil, Option.map_some, Option.map_none, Nat.reduceEqDiff, if_true, if_false, reduceIte, reduceCtorEq, Nat.reduceAdd, resA, oneOrTuple, binA, binInt, eqA, lenA, capA, unA, partA, partsA, fillA, sliceA, bounds_none, bounds_lo, bounds_hi, bounds_lohi, evalDreg, hoist, evalD, O.cls, readsOk, List.tail_cons, List.headD_cons, List.nil_append, List.cons_append, List.getLast?_cons_cons, List.getLast?_singleton, Nat.sub_zero, Int.toNat_natCast, ite_self, Nat.add_zero, Nat.zero_add, Nat.zero_mul, Option.isNone_none, Option.isNone_some, Option.isSome_none, Option.isSome_some, Int.reduceBEq, Int.reduceBNe, Int.reduceLT, Int.reduceLE, Int.reduceGT, Int.reduceGE, Int.reduceEq, decide_true, decide_false, Bool.not_true, Bool.not_false, Int.reduceMul, Int.reduceAdd, Int.reduceSub, Int.reduceToNat, Nat.reduceMul, Nat.reduceSub, Nat.reduceLT, Nat.reduceLeDiff, beq_self_eq_true, bne_self_eq_false, Bool.true_beq, Bool.false_beq, ne_eq, not_true_eq_false, not_false_eq_true, Bool.false_eq_true, Bool.or_self, or_self, AV.cells, AV.one, List.all_cons, List.all_nil, Bool.and_true, Bool.true_and, List.length_cons, List.length_nil, splice, List.set_cons_zero, List.set_cons_succ, Nat.le_refl, Nat.reduceLeDiff, iter_succ, Hp.get_new, Hp.get_put, Hp.get_kill, Hp.next_new, Hp.next_put, Hp.next_kill, Hp.put_new, Hp.put_put, readA, readK, loadA, Hp.cell, Hp.cells, Hp.write, List.getElem?_cons_zero, List.getElem?_cons_succ, Bool.and_self, and_self, and_true, true_and, s34, s34_l0, c1, c2, w2, v2]

theorem levels_ok3 {n : Nat} (hn : 9 < n) (codes : Int) (h : Hp) (h1 : 64 < codes) (h2 : codes ≤ 512) : evalFn F2 n 34 [.int .i64 codes] h = some (.int .i64 3, h) := by
  obtain ⟨k, rfl⟩ : ∃ k, n = k + 8 + 1 := ⟨n - 9, by omega⟩
  have c1 : decide (8 < codes) = true := by simp; omega
  have c2 : decide (64 < codes) = true := by simp; omega
  have c3 : decide (512 < codes) = false := by simp; omega
  have w2 : IntKind.i64.wrap 64 = 64 := by decide +kernel
  have v2 : IntKind.i64.wrap 2 = 2 := by decide +kernel
  have w3 : IntKind.i64.wrap 512 = 512 := by decide +kernel
  have v3 : IntKind.i64.wrap 3 = 3 := by decide +kernel
  simp only [evalFn_text F2_levels, evalT_fn, BK.hid, cond_true, cond_false, guess0, List.tail_nil, List.headD_nil, evalS, evalOps, evalOp, evalO, wantedA, opd, opds, optOpd, optInt, putO, frameOf, T.get_set, T.get_nil, Option.map_some, Option.map_none, Nat.reduceEqDiff, if_true, if_false, reduceIte, reduceCtorEq, Nat.reduceAdd, resA, oneOrTuple, binA, binInt, eqA, lenA, capA, unA, partA, partsA, fillA, sliceA, bounds_none, bounds_lo, bounds_hi, bounds_lohi, evalDreg, hoist, evalD, O.cls, readsOk, List.tail_cons, List.headD_cons, List.nil_append, List.cons_append, List.getLast?_cons_cons, List.getLast?_singleton, Nat.sub_zero, Int.toNat_natCast, ite_self, Nat.add_zero, Nat.zero_add, Nat.zero_mul, Option.isNone_none, Option.isNone_some, Option.isSome_none, Option.isSome_some, Int.reduceBEq, Int.reduceBNe, Int.reduceLT, Int.reduceLE, Int.reduceGT, Int.reduceGE, Int.reduceEq, decide_true, decide_false, Bool.not_true, Bool.not_false, Int.reduceMul, Int.reduceAdd, Int.reduceSub, Int.reduceToNat, Nat.reduceMul, Nat.reduceSub, Nat.reduceLT, Nat.reduceLeDiff, beq_self_eq_true, bne_self_eq_false, Bool.true_beq, Bool.false_beq, ne_eq, not_true_eq_false, not_false_eq_true, Bool.false_eq_true, Bool.or_self, or_self, AV.cells, AV.one, List.all_cons, List.all_nil, Bool.and_true, Bool.true_and, List.length_cons, List.length_nil, splice, List.set_cons_zero, List.set_cons_succ, Nat.le_refl, Nat.reduceLeDiff, iter_succ, Hp.get_new, Hp.get_put, Hp.get_kill, Hp.next_new, Hp.next_put, Hp.next_kill, Hp.put_new, Hp.put_put, readA, readK, loadA, Hp.cell, Hp.cells, Hp.write, List.getElem?_cons_zero, List.getElem?_cons_succ, Bool.and_self, and_self, and_true, true_and, s34, s34_l0, c1, c2, c3, w2, v2, w3, v3]

theorem levels_ok4 {n : Nat} (hn : 9 < n) (codes : Int) (h : Hp) (h1 : 512 < codes) (h2 : codes ≤ 1024) : evalFn F2 n 34 [.int .i64 codes] h = some (.int .i64 4, h) := by
  obtain ⟨k, rfl⟩ : ∃ k, n = k + 8 + 1 := ⟨n - 9, by omega⟩
  have c1 : decide (8 < codes) = true := by simp; omega
  have c2 : decide (64 < codes) = true := by simp; omega
  have c3 : decide (512 < codes) = true := by simp; omega
  have c4 : decide (4096 < codes) = false := by simp; omega
  have w2 : IntKind.i64.wrap 64 = 64 := by decide +kernel
  have v2 : IntKind.i64.wrap 2 = 2 := by decide +kernel
  have w3 : IntKind.i64.wrap 512 = 512 := by decide +kernel
  have v3 : IntKind.i64.wrap 3 = 3 := by decide +kernel
  have w4 : IntKind.i64.wrap 4096 = 4096 := by decide +kernel
  have v4 : IntKind.i64.wrap 4 = 4 := by decide +kernel
  simp only [evalFn_text F2_levels, evalT_fn, BK.hid, cond_true, cond_false, guess0, List.tail_nil, List.headD_nil, evalS, evalOps, evalOp, evalO, wantedA, opd, opds, optOpd, optInt, putO, frameOf, T.get_set, T.get_nil, Option.map_some, Option.map_none, Nat.reduceEqDiff, if_true, if_false, reduceIte, reduceCtorEq, Nat.reduceAdd, resA, oneOrTuple, binA, binInt, eqA, lenA, capA, unA, partA, partsA, fillA, sliceA, bounds_none, bounds_lo, bounds_hi, bounds_lohi, evalDreg, hoist, evalD, O.cls, readsOk, List.tail_cons, List.headD_cons, List.nil_append, List.cons_append, List.getLast?_cons_cons, List.getLast?_singleton, Nat.sub_zero, Int.toNat_natCast, ite_self, Nat.add_zero, Nat.zero_add, Nat.zero_mul, Option.isNone_none, Option.isNone_some, Option.isSome_none, Option.isSome_some, Int.reduceBEq, Int.reduceBNe, Int.reduceLT, Int.reduceLE, Int.reduceGT, Int.reduceGE, Int.reduceEq, decide_true, decide_false, Bool.not_true, Bool.not_false, Int.reduceMul, Int.reduceAdd, Int.reduceSub, Int.reduceToNat, Nat.reduceMul, Nat.reduceSub, Nat.reduceLT, Nat.reduceLeDiff, beq_self_eq_true, bne_self_eq_false, Bool.true_beq, Bool.false_beq, ne_eq, not_true_eq_false, not_false_eq_true, Bool.false_eq_true, Bool.or_self, or_self, AV.cells, AV.one, List.all_cons, List.all_nil, Bool.and_true, Bool.true_and, List.length_cons, List.length_nil, splice, List.set_cons_zero, List.set_cons_succ, Nat.le_refl, Nat.reduceLeDiff, iter_succ, Hp.get_new, Hp.get_put, Hp.get_kill, Hp.next_new, Hp.next_put, Hp.next_kill, Hp.put_new, Hp.put_put, readA, readK, loadA, Hp.cell, Hp.cells, Hp.write, List.getElem?_cons_zero, List.getElem?_cons_succ, Bool.and_self, and_self, and_true, true_and, s34, s34_l0, c1, c2, c3, c4, w2, v2, w3, v3, w4, v4]

theorem pm_bad (room codes : Int) (hr : room < 1 ∨ room > 20000) : evalFn F2 20 7 [.int .i64 room, .int .i64 codes] Hp.empty = some (.bool true, Hp.empty) := by
  have e1 : evalFn F2 19 13 [.int .i64 room] Hp.empty = _ := new_bad (by omega) room _ hr
  have e2 : evalFn F2 19 29 [.ptr none, .int .i64 codes] Hp.empty = _ := pnew_nil (by omega) codes _
  have e3 : ∀ h, evalFn F2 19 30 [] h = _ := fun h => evalFn_prim' F2_known (by omega) [] h
  rw [show (20 : Nat) = 19 + 1 from rfl, evalFn_text F2_law]
  simp only [evalT_fn, BK.hid, cond_true, cond_false, guess0, List.tail_nil, List.headD_nil, evalS, evalOps, evalOp, evalO, wantedA, opd, opds, optOpd, optInt, putO, frameOf, T.get_set, T.get_nil, Option.map_some, Option.map_none, Nat.reduceEqDiff, if_true, if_false, reduceIte, reduceCtorEq, Nat.reduceAdd, resA, oneOrTuple, binA, binInt, eqA, lenA, capA, unA, partA, partsA, fillA, sliceA, bounds_none, bounds_lo, bounds_hi, bounds_lohi, evalDreg, hoist, evalD, O.cls, readsOk, List.tail_cons, List.headD_cons, List.nil_append, List.cons_append, List.getLast?_cons_cons, List.getLast?_singleton, Nat.sub_zero, Int.toNat_natCast, ite_self, Nat.add_zero, Nat.zero_add, Nat.zero_mul, Option.isNone_none, Option.isNone_some, Option.isSome_none, Option.isSome_some, Int.reduceBEq, Int.reduceBNe, Int.reduceLT, Int.reduceLE, Int.reduceGT, Int.reduceGE, Int.reduceEq, decide_true, decide_false, Bool.not_true, Bool.not_false, Int.reduceMul, Int.reduceAdd, Int.reduceSub, Int.reduceToNat, Nat.reduceMul, Nat.reduceSub, Nat.reduceLT, Nat.reduceLeDiff, beq_self_eq_true, bne_self_eq_false, Bool.true_beq, Bool.false_beq, ne_eq, not_true_eq_false, not_false_eq_true, Bool.false_eq_true, Bool.or_self, or_self, AV.cells, AV.one, List.all_cons, List.all_nil, Bool.and_true, Bool.true_and, List.length_cons, List.length_nil, splice, List.set_cons_zero, List.set_cons_succ, Nat.le_refl, Nat.reduceLeDiff, iter_succ, Hp.get_new, Hp.get_put, Hp.get_kill, Hp.next_new, Hp.next_put, Hp.next_kill, Hp.put_new, Hp.put_put, readA, readK, loadA, Hp.cell, Hp.cells, Hp.write, List.getElem?_cons_zero, List.getElem?_cons_succ, Bool.and_self, and_self, and_true, true_and, s7, e1, e2, e3, trueA]

theorem pm_codes (room codes : Int) (h1 : 1 ≤ room) (h2 : room ≤ 20000) (hr : codes < 1 ∨ codes > 1024) : (evalFn F2 20 7 [.int .i64 room, .int .i64 codes] Hp.empty).map (·.1) = some (.bool true) := by
  have e1 : evalFn F2 19 13 [.int .i64 room] Hp.empty = _ := new_ok (by omega) room _ h1 h2
  have e2 : ∀ a h, evalFn F2 19 29 [.ptr (some a), .int .i64 codes] h = _ := fun a h => pnew_bad (by omega) a codes h hr
  have e3 : ∀ h, evalFn F2 19 30 [] h = _ := fun h => evalFn_prim' F2_known (by omega) [] h
  have g : (decide (codes < 1) = true) ∨ (decide (codes < 1) = false ∧ decide (codes > 1024) = true) := by
    rcases hr with h | h
    · exact .inl (by simp [h])
    · exact .inr ⟨by simp; omega, by simp [h]⟩
  rw [show (20 : Nat) = 19 + 1 from rfl, evalFn_text F2_law]
  rcases g with g1 | ⟨g1, g2⟩
  · simp only [evalT_fn, BK.hid, cond_true, cond_false, guess0, List.tail_nil, List.headD_nil, evalS, evalOps, evalOp, evalO, wantedA, opd, opds, optOpd, optInt, putO, frameOf, T.get_set, T.get_nil, Option.map_some, Option.map_none, Nat.reduceEqDiff, if_true, if_false, reduceIte, reduceCtorEq, Nat.reduceAdd, resA, oneOrTuple, binA, binInt, eqA, lenA, capA, unA, partA, partsA, fillA, sliceA, bounds_none, bounds_lo, bounds_hi, bounds_lohi, evalDreg, hoist, evalD, O.cls, readsOk, List.tail_cons, List.headD_cons, List.nil_append, List.cons_append, List.getLast?_cons_cons, List.getLast?_singleton, Nat.sub_zero, Int.toNat_natCast, ite_self, Nat.add_zero, Nat.zero_add, Nat.zero_mul, Option.isNone_none, Option.isNone_some, Option.isSome_none, Option.isSome_some, Int.reduceBEq, Int.reduceBNe, Int.reduceLT, Int.reduceLE, Int.reduceGT, Int.reduceGE, Int.reduceEq, decide_true, decide_false, Bool.not_true, Bool.not_false, Int.reduceMul, Int.reduceAdd, Int.reduceSub, Int.reduceToNat, Nat.reduceMul, Nat.reduceSub, Nat.reduceLT, Nat.reduceLeDiff, beq_self_eq_true, bne_self_eq_false, Bool.true_beq, Bool.false_beq, ne_eq, not_true_eq_false, not_false_eq_true, Bool.false_eq_true, Bool.or_self, or_self, AV.cells, AV.one, List.all_cons, List.all_nil, Bool.and_true, Bool.true_and, List.length_cons, List.length_nil, splice, List.set_cons_zero, List.set_cons_succ, Nat.le_refl, Nat.reduceLeDiff, iter_succ, Hp.get_new, Hp.get_put, Hp.get_kill, Hp.next_new, Hp.next_put, Hp.next_kill, Hp.put_new, Hp.put_put, readA, readK, loadA, Hp.cell, Hp.cells, Hp.write, List.getElem?_cons_zero, List.getElem?_cons_succ, Bool.and_self, and_self, and_true, true_and, s7, e1, e2, e3, trueA, g1]
  · simp only [evalT_fn, BK.hid, cond_true, cond_false, guess0, List.tail_nil, List.headD_nil, evalS, evalOps, evalOp, evalO, wantedA, opd, opds, optOpd, optInt, putO, frameOf, T.get_set, T.get_nil, Option.map_some, Option.map_none, Nat.reduceEqDiff, if_true, if_false, reduceIte, reduceCtorEq, Nat.reduceAdd, resA, oneOrTuple, binA, binInt, eqA, lenA, capA, unA, partA, partsA, fillA, sliceA, bounds_none, bounds_lo, bounds_hi, bounds_lohi, evalDreg, hoist, evalD, O.cls, readsOk, List.tail_cons, List.headD_cons, List.nil_append, List.cons_append, List.getLast?_cons_cons, List.getLast?_singleton, Nat.sub_zero, Int.toNat_natCast, ite_self, Nat.add_zero, Nat.zero_add, Nat.zero_mul, Option.isNone_none, Option.isNone_some, Option.isSome_none, Option.isSome_some, Int.reduceBEq, Int.reduceBNe, Int.reduceLT, Int.reduceLE, Int.reduceGT, Int.reduceGE, Int.reduceEq, decide_true, decide_false, Bool.not_true, Bool.not_false, Int.reduceMul, Int.reduceAdd, Int.reduceSub, Int.reduceToNat, Nat.reduceMul, Nat.reduceSub, Nat.reduceLT, Nat.reduceLeDiff, beq_self_eq_true, bne_self_eq_false, Bool.true_beq, Bool.false_beq, ne_eq, not_true_eq_false, not_false_eq_true, Bool.false_eq_true, Bool.or_self, or_self, AV.cells, AV.one, List.all_cons, List.all_nil, Bool.and_true, Bool.true_and, List.length_cons, List.length_nil, splice, List.set_cons_zero, List.set_cons_succ, Nat.le_refl, Nat.reduceLeDiff, iter_succ, Hp.get_new, Hp.get_put, Hp.get_kill, Hp.next_new, Hp.next_put, Hp.next_kill, Hp.put_new, Hp.put_put, readA, readK, loadA, Hp.cell, Hp.cells, Hp.write, List.getElem?_cons_zero, List.getElem?_cons_succ, Bool.and_self, and_self, and_true, true_and, s7, e1, e2, e3, trueA, g1, g2]

theorem pm_all (room codes : Int) (h1 : 1 ≤ room) (h2 : room ≤ 20000) (hc1 : 1 ≤ codes) (hc2 : codes ≤ 1024) (lev span : Int)
    (e2 : ∀ a h, evalFn F2 19 29 [.ptr (some a), .int .i64 codes] h = some (.tuple [.ptr (some (h.next, 0)), .int .i64 0], h.new ⟨[.ptr (some a), .int .i64 codes, .int .i64 lev, .int .i64 span], .own⟩))
    (e4 : ∀ h, evalFn F2 19 34 [.int .i64 codes] h = some (.int .i64 lev, h)) :
    (evalFn F2 20 7 [.int .i64 room, .int .i64 codes] Hp.empty).map (·.1) = some (.bool true) := by
  have e1 : evalFn F2 19 13 [.int .i64 room] Hp.empty = _ := new_ok (by omega) room _ h1 h2
  have e3 : ∀ h, evalFn F2 19 30 [] h = _ := fun h => evalFn_prim' F2_known (by omega) [] h
  have g1 : decide (codes < 1) = false := by simp; omega
  have g2 : decide (codes > 1024) = false := by simp; omega
  rw [show (20 : Nat) = 19 + 1 from rfl, evalFn_text F2_law]
  simp only [evalT_fn, BK.hid, cond_true, cond_false, guess0, List.tail_nil, List.headD_nil, evalS, evalOps, evalOp, evalO, wantedA, opd, opds, optOpd, optInt, putO, frameOf, T.get_set, T.get_nil, Option.map_some, Option.map_none, Nat.reduceEqDiff, if_true, if_false, reduceIte, reduceCtorEq, Nat.reduceAdd, resA, oneOrTuple, binA, binInt, eqA, lenA, capA, unA, partA, partsA, fillA, sliceA, bounds_none, bounds_lo, bounds_hi, bounds_lohi, evalDreg, hoist, evalD, O.cls, readsOk, List.tail_cons, List.headD_cons, List.nil_append, List.cons_append, List.getLast?_cons_cons, List.getLast?_singleton, Nat.sub_zero, Int.toNat_natCast, ite_self, Nat.add_zero, Nat.zero_add, Nat.zero_mul, Option.isNone_none, Option.isNone_some, Option.isSome_none, Option.isSome_some, Int.reduceBEq, Int.reduceBNe, Int.reduceLT, Int.reduceLE, Int.reduceGT, Int.reduceGE, Int.reduceEq, decide_true, decide_false, Bool.not_true, Bool.not_false, Int.reduceMul, Int.reduceAdd, Int.reduceSub, Int.reduceToNat, Nat.reduceMul, Nat.reduceSub, Nat.reduceLT, Nat.reduceLeDiff, beq_self_eq_true, bne_self_eq_false, Bool.true_beq, Bool.false_beq, ne_eq, not_true_eq_false, not_false_eq_true, Bool.false_eq_true, Bool.or_self, or_self, AV.cells, AV.one, List.all_cons, List.all_nil, Bool.and_true, Bool.true_and, List.length_cons, List.length_nil, splice, List.set_cons_zero, List.set_cons_succ, Nat.le_refl, Nat.reduceLeDiff, iter_succ, Hp.get_new, Hp.get_put, Hp.get_kill, Hp.next_new, Hp.next_put, Hp.next_kill, Hp.put_new, Hp.put_put, readA, readK, loadA, Hp.cell, Hp.cells, Hp.write, List.getElem?_cons_zero, List.getElem?_cons_succ, Bool.and_self, and_self, and_true, true_and, s7, e1, e2, e3, e4, trueA, g1, g2, evalFn_text F2_pa, evalFn_text F2_pc, evalFn_text F2_pl, s31, s32, s33]

theorem runPagesMakes (room codes : Int) : (evalFn F2 20 7 [.int .i64 room, .int .i64 codes] Hp.empty).map (·.1) = some (.bool true) := by
  by_cases hr : room < 1 ∨ room > 20000
  · rw [pm_bad room codes hr]; rfl
  by_cases hc : codes < 1 ∨ codes > 1024
  · exact pm_codes room codes (by omega) (by omega) hc
  by_cases c1 : codes ≤ 8
  · exact pm_all room codes (by omega) (by omega) (by omega) (by omega) _ _ (fun a h => pnew_ok1 (by omega) a codes h (by omega) (by omega)) (fun h => levels_ok1 (by omega) codes h (by omega) (by omega))
  by_cases c2 : codes ≤ 64
  · exact pm_all room codes (by omega) (by omega) (by omega) (by omega) _ _ (fun a h => pnew_ok2 (by omega) a codes h (by omega) (by omega)) (fun h => levels_ok2 (by omega) codes h (by omega) (by omega))
  by_cases c3 : codes ≤ 512
  · exact pm_all room codes (by omega) (by omega) (by omega) (by omega) _ _ (fun a h => pnew_ok3 (by omega) a codes h (by omega) (by omega)) (fun h => levels_ok3 (by omega) codes h (by omega) (by omega))
  · exact pm_all room codes (by omega) (by omega) (by omega) (by omega) _ _ (fun a h => pnew_ok4 (by omega) a codes h (by omega) (by omega)) (fun h => levels_ok4 (by omega) codes h (by omega) (by omega))

theorem walkPagesMakes (room codes : Int) (w : World) : Calls Try.prog 7 #[.int .i64 room, .int .i64 codes] w fun e w' => e = .returned (.bool true) ∧ Below w.heap.size w w' :=
  law_walk F2_ok mixed ctxOk Try.call7 (.cons _ _ _ _ (.int _ _) (.cons _ _ _ _ (.int _ _) .nil)) (runPagesMakes room codes) w

end Go.Proofs.Ytchffjnmkpedkaa
