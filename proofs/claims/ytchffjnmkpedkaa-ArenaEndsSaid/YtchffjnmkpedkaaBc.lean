/-
  The arena: New, given, node. Own work of this session.
-/
import Derived.Test.YtchffjnmkpedkaaBb
set_option linter.unusedSectionVars false
set_option linter.unusedSimpArgs false
set_option linter.unusedVariables false
namespace Go.Lite.Arena
set_option linter.unusedSectionVars false
set_option linter.unusedSimpArgs false
set_option linter.unusedVariables false
/-- An act. -/
structure ActV where
  kind : Int
  n : Int
  leaf : Bool
  kids : List Int
  val : Int
  hk : kids.length = 8
/-- The node of an act. -/
def actNd (x : ActV) : Nd := ⟨x.leaf, x.kids, (x.val, (x.val.tmod 2 == 0)) :: List.replicate 7 (0, false), x.hk, rfl⟩
end Go.Lite.Arena
namespace Go.Proofs.Ytchffjnmkpedkaa
open Go.Lite Go.RowKit Go.Lite.Arena
set_option maxHeartbeats 4000000
set_option maxRecDepth 10000

def actC (x : ActV) : List AV := .int .i64 x.kind :: .int .i64 x.n :: .bool x.leaf :: (x.kids.map (AV.int .i64) ++ [.int .i64 x.val])
theorem actC_len (x : ActV) : (actC x).length = 12 := by simp [actC, x.hk]

theorem F2_new : F2 13 = some (.text s13) := rfl
theorem F2_given : F2 16 = some (.text s16) := rfl
theorem F2_node : F2 17 = some (.text s17) := rfl

theorem arenaNew_ok {n : Nat} (hn : 0 < n) {h : Hp} (most : Int) (h1 : 1 ≤ most) (h2 : most ≤ 20000) : ∃ h', evalFn F2 n 13 [.int .i64 most] h = some (.tuple [.ptr (some (h.next, 0)), .int .i64 0], h') ∧ AAt h' h.next most [] [] [] ∧ Kept h h' [] ∧ h'.next = h.next + 1 := by
  obtain ⟨k, rfl⟩ : ∃ k, n = k + 1 := ⟨n - 1, by omega⟩
  have g1 : decide (most < 1) = false := by simp <;> omega
  have g2 : decide (most > 20000) = false := by simp <;> omega
  have f1 : fillA [.int .i64 0, .slice none 0 (.known 0), .slice none 0 (.known 0)] [(0, 1, .int .i64 most)] = some [.int .i64 most, .slice none 0 (.known 0), .slice none 0 (.known 0)] := rfl
  refine ⟨h.new ⟨[.int .i64 most, .slice none 0 (.known 0), .slice none 0 (.known 0)], .own⟩, ?_, ⟨⟨_, _, by rw [Hp.get_new, if_pos rfl], ⟨rfl, rfl⟩, ⟨rfl, rfl⟩⟩, by simp, by simp, by simp⟩, ⟨by simp, fun c hc _ => get_new_ne hc _⟩, by simp⟩
  simp (maxSteps := 4000000) only [evalFn_text F2_new, evalT_fn, BK.hid, cond_true, cond_false, guess0, List.tail_nil, List.headD_nil, evalS, evalOps, evalOp, evalO, wantedA, opd, opds, optOpd, optInt, putO, frameOf, T.get_set, T.get_nil, Option.map_some, Option.map_none, Nat.reduceEqDiff, if_true, if_false, reduceIte, reduceCtorEq, Nat.reduceAdd, resA, oneOrTuple, binA, binInt, eqA, lenA, capA, unA, partA, partsA, fillA_nil, sliceA, bounds_none, bounds_lo, bounds_hi, bounds_lohi, evalDreg_false, List.take_succ_cons, List.take_zero, List.take_nil, List.drop_zero, List.drop_succ_cons, List.drop_nil, AV.beq, eq_self, hoist, evalD, O.cls, readsOk, List.tail_cons, List.headD_cons, List.nil_append, List.cons_append, List.getLast?_cons_cons, List.getLast?_singleton, Nat.sub_zero, Int.toNat_natCast, ite_self, Nat.add_zero, Nat.zero_add, Nat.zero_mul, Option.isNone_none, Option.isNone_some, Option.isSome_none, Option.isSome_some, Int.reduceBEq, Int.reduceBNe, Int.reduceLT, Int.reduceLE, Int.reduceGT, Int.reduceGE, Int.reduceEq, decide_true, decide_false, Bool.not_true, Bool.not_false, Int.reduceMul, Int.reduceAdd, Int.reduceSub, Int.reduceToNat, Nat.reduceMul, Nat.reduceSub, Nat.reduceLT, Nat.reduceLeDiff, beq_self_eq_true, bne_self_eq_false, Bool.true_beq, Bool.false_beq, ne_eq, not_true_eq_false, not_false_eq_true, Bool.false_eq_true, Bool.or_self, or_self, AV.cells, AV.one, List.all_cons, List.all_nil, Bool.and_true, Bool.true_and, List.length_cons, List.length_nil, splice, List.set_cons_zero, List.set_cons_succ, Nat.le_refl, Nat.reduceLeDiff, iter_succ, readA, readK, loadA, List.getElem?_cons_zero, List.getElem?_cons_succ, Bool.and_self, and_self, and_true, true_and, s13, g1, g2, f1]

theorem given_fill (m : Nd) : fillA zN [(0, 1, .bool m.leaf), (1, 8, .agg (m.kids.map (AV.int .i64))), (9, 16, .agg (m.vals.flatMap entC))] = some (nodeC m) := by
  obtain ⟨leaf, kids, vals, hk, hv⟩ := m
  match kids, hk, vals, hv with
  | [_, _, _, _, _, _, _, _], _, [_, _, _, _, _, _, _, _], _ =>
    simp only [fillA, zN, AV.cells, List.map_cons, List.map_nil, List.flatMap_cons, List.flatMap_nil, entC, List.cons_append, List.nil_append, nodeC, splice, List.set_cons_zero, List.set_cons_succ, List.length_cons, List.length_nil, List.all_cons, List.all_nil, AV.one, Bool.and_self, Nat.reduceAdd, Nat.reduceLeDiff, and_self, if_true, reduceIte, List.append_nil]

theorem nodeC_vals (n : Nd) : ((nodeC n).drop 9).take 16 = n.vals.flatMap entC := by
  obtain ⟨leaf, kids, vals, hk, hv⟩ := n
  match kids, hk, vals, hv with
  | [_, _, _, _, _, _, _, _], _, [_, _, _, _, _, _, _, _], _ => rfl

theorem given_ok {n : Nat} (hn : 0 < n) {h : Hp} (m : Nd) : ∃ h', evalFn F2 n 16 [.agg (nodeC m)] h = some (.agg (nodeC m), h') ∧ Kept h h' [] := by
  obtain ⟨k, rfl⟩ : ∃ k, n = k + 1 := ⟨n - 1, by omega⟩
  have h1 := nodeC_one m
  have f1 := given_fill m
  have q1 := node_beqs m
  have hb1 : ((h.new ⟨nodeC m, .own⟩).new ⟨zN, .own⟩).get h.next = some ⟨nodeC m, .own⟩ := by rw [Hp.get_new, if_neg (by simp), Hp.get_new, if_pos rfl]
  have c0 : ((h.new ⟨nodeC m, .own⟩).new ⟨zN, .own⟩).cell (h.next, 0) = some (.bool m.leaf) := by rw [Hp.cell_at hb1 rfl]; rfl
  have c1 : ((h.new ⟨nodeC m, .own⟩).new ⟨zN, .own⟩).cells (h.next, 1) 8 = some (m.kids.map (AV.int .i64)) := by rw [Hp.cells_at hb1 rfl (by rw [nodeC_len]; omega), nodeC_kids]
  have c2 : ((h.new ⟨nodeC m, .own⟩).new ⟨zN, .own⟩).cells (h.next, 9) 16 = some (m.vals.flatMap entC) := by rw [Hp.cells_at hb1 rfl (by rw [nodeC_len]; omega), nodeC_vals]
  have w1 : ((h.new ⟨nodeC m, .own⟩).new ⟨zN, .own⟩).write (h.next + 1, 0) (nodeC m) = some ((h.new ⟨nodeC m, .own⟩).new ⟨nodeC m, .own⟩) := write_new (nodeC_len m) (nodeC_one m)
  have r1 : ((h.new ⟨nodeC m, .own⟩).new ⟨nodeC m, .own⟩).cells (h.next + 1, 0) 25 = some (nodeC m) := cells_new (nodeC_len m)
  refine ⟨(h.new ⟨nodeC m, .own⟩).new ⟨nodeC m, .own⟩, ?_, ⟨by simp <;> omega, fun c hc _ => by rw [get_new_ne (by simp <;> omega), get_new_ne hc]⟩⟩
  unfold zN at f1 c0 c1 c2 w1
  simp (maxSteps := 4000000) only [evalFn_text F2_given, evalT_fn, BK.hid, cond_true, cond_false, guess0, List.tail_nil, List.headD_nil, evalS, evalOps, evalOp, evalO, wantedA, opd, opds, optOpd, optInt, putO, frameOf, T.get_set, T.get_nil, Option.map_some, Option.map_none, Nat.reduceEqDiff, if_true, if_false, reduceIte, reduceCtorEq, Nat.reduceAdd, resA, oneOrTuple, binA, binInt, eqA, lenA, capA, unA, partA, partsA, fillA_nil, sliceA, bounds_none, bounds_lo, bounds_hi, bounds_lohi, evalDreg_false, List.take_succ_cons, List.take_zero, List.take_nil, List.drop_zero, List.drop_succ_cons, List.drop_nil, AV.beq, eq_self, hoist, evalD, O.cls, readsOk, List.tail_cons, List.headD_cons, List.nil_append, List.cons_append, List.getLast?_cons_cons, List.getLast?_singleton, Nat.sub_zero, Int.toNat_natCast, ite_self, Nat.add_zero, Nat.zero_add, Nat.zero_mul, Option.isNone_none, Option.isNone_some, Option.isSome_none, Option.isSome_some, Int.reduceBEq, Int.reduceBNe, Int.reduceLT, Int.reduceLE, Int.reduceGT, Int.reduceGE, Int.reduceEq, decide_true, decide_false, Bool.not_true, Bool.not_false, Int.reduceMul, Int.reduceAdd, Int.reduceSub, Int.reduceToNat, Nat.reduceMul, Nat.reduceSub, Nat.reduceLT, Nat.reduceLeDiff, beq_self_eq_true, bne_self_eq_false, Bool.true_beq, Bool.false_beq, ne_eq, not_true_eq_false, not_false_eq_true, Bool.false_eq_true, Bool.or_self, or_self, AV.cells, AV.one, List.all_cons, List.all_nil, Bool.and_true, Bool.true_and, List.length_cons, List.length_nil, splice, List.set_cons_zero, List.set_cons_succ, Nat.le_refl, Nat.reduceLeDiff, iter_succ, readA, readK, loadA, List.getElem?_cons_zero, List.getElem?_cons_succ, Bool.and_self, and_self, and_true, true_and, s16, h1, f1, c0, c1, c2, w1, r1, Hp.next_new, nodeC_len]

theorem actC_one (x : ActV) : (actC x).all AV.one = true := by
  obtain ⟨kind, n, leaf, kids, val, hk⟩ := x
  match kids, hk with
  | [_, _, _, _, _, _, _, _], _ => rfl
theorem actC_kids (x : ActV) : ((actC x).drop 3).take 8 = x.kids.map (AV.int .i64) := by
  obtain ⟨kind, n, leaf, kids, val, hk⟩ := x
  match kids, hk with
  | [_, _, _, _, _, _, _, _], _ => rfl
theorem actC_val (x : ActV) : (actC x)[11]? = some (.int .i64 x.val) := by
  obtain ⟨kind, n, leaf, kids, val, hk⟩ := x
  match kids, hk with
  | [_, _, _, _, _, _, _, _], _ => rfl

/-- The node of an act, its first entry not yet filled in. -/
def actN0 (x : ActV) : Nd := ⟨x.leaf, x.kids, List.replicate 8 (0, false), x.hk, rfl⟩
theorem actN0_fill (x : ActV) : fillA zN [(0, 1, .bool x.leaf), (1, 8, .agg (x.kids.map (AV.int .i64)))] = some (nodeC (actN0 x)) := by
  obtain ⟨kind, n, leaf, kids, val, hk⟩ := x
  match kids, hk with
  | [_, _, _, _, _, _, _, _], _ =>
    simp only [actN0, fillA, zN, AV.cells, List.map_cons, List.map_nil, List.replicate, List.flatMap_cons, List.flatMap_nil, entC, List.cons_append, List.nil_append, nodeC, splice, List.set_cons_zero, List.set_cons_succ, List.length_cons, List.length_nil, List.all_cons, List.all_nil, AV.one, Bool.and_self, Nat.reduceAdd, Nat.reduceLeDiff, and_self, if_true, reduceIte, List.append_nil]
theorem actNd_splice (x : ActV) : splice (nodeC (actN0 x)) 9 [.int .i64 x.val, .bool (x.val.tmod 2 == 0)] = nodeC (actNd x) := by
  obtain ⟨kind, n, leaf, kids, val, hk⟩ := x
  match kids, hk with
  | [_, _, _, _, _, _, _, _], _ => rfl

theorem node_ok {n : Nat} (hn : 0 < n) {h : Hp} (x : ActV) : ∃ h', evalFn F2 n 17 [.agg (actC x)] h = some (.agg (nodeC (actNd x)), h') ∧ Kept h h' [] := by
  obtain ⟨k, rfl⟩ : ∃ k, n = k + 1 := ⟨n - 1, by omega⟩
  have b8 : (0 : Int) < ((8 : Nat) : Int) := by decide
  have h1 := actC_one x
  have f1 := actN0_fill x
  have g1 : ((h.new ⟨actC x, .own⟩).new ⟨zN, .own⟩).get h.next = some ⟨actC x, .own⟩ := by rw [Hp.get_new, if_neg (by simp), Hp.get_new, if_pos rfl]
  have c0 : ((h.new ⟨actC x, .own⟩).new ⟨zN, .own⟩).cell (h.next, 2) = some (.bool x.leaf) := by rw [Hp.cell_at g1 rfl]; rfl
  have c1 : ((h.new ⟨actC x, .own⟩).new ⟨zN, .own⟩).cells (h.next, 3) 8 = some (x.kids.map (AV.int .i64)) := by rw [Hp.cells_at g1 rfl (by rw [actC_len]; omega), actC_kids]
  have w1 : (((h.new ⟨actC x, .own⟩).new ⟨zN, .own⟩).new ⟨zN, .own⟩).write (h.next + 1 + 1, 0) (nodeC (actN0 x)) = some (((h.new ⟨actC x, .own⟩).new ⟨zN, .own⟩).new ⟨nodeC (actN0 x), .own⟩) := write_new (nodeC_len _) (nodeC_one _)
  have g2 : (((h.new ⟨actC x, .own⟩).new ⟨zN, .own⟩).new ⟨nodeC (actN0 x), .own⟩).get h.next = some ⟨actC x, .own⟩ := by rw [get_new_ne (by simp <;> omega)]; exact g1
  have c2 : (((h.new ⟨actC x, .own⟩).new ⟨zN, .own⟩).new ⟨nodeC (actN0 x), .own⟩).cell (h.next, 11) = some (.int .i64 x.val) := by rw [Hp.cell_at g2 rfl, actC_val]
  have f2 : fillA [.int .i64 0, .bool false] [(0, 1, .int .i64 x.val), (1, 1, .bool (x.val.tmod 2 == 0))] = some [.int .i64 x.val, .bool (x.val.tmod 2 == 0)] := rfl
  have w2 : (((h.new ⟨actC x, .own⟩).new ⟨zN, .own⟩).new ⟨nodeC (actN0 x), .own⟩).write (h.next + 1 + 1, 9) [.int .i64 x.val, .bool (x.val.tmod 2 == 0)] = some (((h.new ⟨actC x, .own⟩).new ⟨zN, .own⟩).new ⟨nodeC (actNd x), .own⟩) := by
    rw [Hp.write_at (k := .own) (cs := nodeC (actN0 x)) (by rw [Hp.get_new, if_pos (by simp)]) rfl (by simp) (by rw [nodeC_len]; simp) rfl, actNd_splice]
    exact congrArg some (Hp.put_new _ _ _)
  have r1 : (((h.new ⟨actC x, .own⟩).new ⟨zN, .own⟩).new ⟨nodeC (actNd x), .own⟩).cells (h.next + 1 + 1, 0) 25 = some (nodeC (actNd x)) := cells_new (nodeC_len _)
  have g3 : (((h.new ⟨actC x, .own⟩).new ⟨zN, .own⟩).new ⟨nodeC (actNd x), .own⟩).get (h.next + 1) = some ⟨zN, .own⟩ := by rw [get_new_ne (by simp), Hp.get_new, if_pos (by simp)]
  have w3 := Hp.write_at (i := 0) (vs := nodeC (actNd x)) g3 rfl (by simp) (by rw [nodeC_len, zN_len]; omega) (nodeC_one _)
  rw [splice_all _ _ (by rw [nodeC_len, zN_len])] at w3
  have r2 : ((((h.new ⟨actC x, .own⟩).new ⟨zN, .own⟩).new ⟨nodeC (actNd x), .own⟩).put (h.next + 1) ⟨nodeC (actNd x), .own⟩).cells (h.next + 1, 0) 25 = some (nodeC (actNd x)) := by
    rw [Hp.cells_at (k := .own) (cs := nodeC (actNd x)) (by rw [Hp.get_put, if_pos rfl]) rfl (by rw [nodeC_len]; omega), List.drop_zero, List.take_of_length_le (by rw [nodeC_len]; omega)]
  refine ⟨(((h.new ⟨actC x, .own⟩).new ⟨zN, .own⟩).new ⟨nodeC (actNd x), .own⟩).put (h.next + 1) ⟨nodeC (actNd x), .own⟩, ?_, ⟨by simp <;> omega, fun c hc _ => by rw [Hp.get_put, if_neg (by omega), get_new_ne (by simp <;> omega), get_new_ne (by simp <;> omega), get_new_ne hc]⟩⟩
  unfold zN at f1 c0 c1 w1 c2 w2 r1 w3 r2 ⊢
  simp (maxSteps := 4000000) only [evalFn_text F2_node, evalT_fn, BK.hid, cond_true, cond_false, guess0, List.tail_nil, List.headD_nil, evalS, evalOps, evalOp, evalO, wantedA, opd, opds, optOpd, optInt, putO, frameOf, T.get_set, T.get_nil, Option.map_some, Option.map_none, Nat.reduceEqDiff, if_true, if_false, reduceIte, reduceCtorEq, Nat.reduceAdd, resA, oneOrTuple, binA, binInt, eqA, lenA, capA, unA, partA, partsA, fillA_nil, sliceA, bounds_none, bounds_lo, bounds_hi, bounds_lohi, evalDreg_false, List.take_succ_cons, List.take_zero, List.take_nil, List.drop_zero, List.drop_succ_cons, List.drop_nil, AV.beq, eq_self, hoist, evalD, O.cls, readsOk, List.tail_cons, List.headD_cons, List.nil_append, List.cons_append, List.getLast?_cons_cons, List.getLast?_singleton, Nat.sub_zero, Int.toNat_natCast, ite_self, Nat.add_zero, Nat.zero_add, Nat.zero_mul, Option.isNone_none, Option.isNone_some, Option.isSome_none, Option.isSome_some, Int.reduceBEq, Int.reduceBNe, Int.reduceLT, Int.reduceLE, Int.reduceGT, Int.reduceGE, Int.reduceEq, decide_true, decide_false, Bool.not_true, Bool.not_false, Int.reduceMul, Int.reduceAdd, Int.reduceSub, Int.reduceToNat, Nat.reduceMul, Nat.reduceSub, Nat.reduceLT, Nat.reduceLeDiff, beq_self_eq_true, bne_self_eq_false, Bool.true_beq, Bool.false_beq, ne_eq, not_true_eq_false, not_false_eq_true, Bool.false_eq_true, Bool.or_self, or_self, AV.cells, AV.one, List.all_cons, List.all_nil, Bool.and_true, Bool.true_and, List.length_cons, List.length_nil, splice, List.set_cons_zero, List.set_cons_succ, Nat.le_refl, Nat.reduceLeDiff, iter_succ, readA, readK, loadA, List.getElem?_cons_zero, List.getElem?_cons_succ, Bool.and_self, and_self, and_true, true_and, s17, h1, f1, c0, c1, w1, c2, f2, w2, r1, w3, r2, b8, Hp.next_new, nodeC_len]

end Go.Proofs.Ytchffjnmkpedkaa
