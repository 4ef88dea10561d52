/-
  The arena: Drop, whole. Own work of this session.
-/
import Derived.Test.YtchffjnmkpedkaaAv
set_option linter.unusedSectionVars false
set_option linter.unusedSimpArgs false
set_option linter.unusedVariables false
namespace Go.Lite
set_option linter.unusedSectionVars false
set_option linter.unusedSimpArgs false
set_option linter.unusedVariables false
def S.fst : S → S
  | .seq a _ => a
  | _ => .skip
def S.snd : S → S
  | .seq _ b => b
  | _ => .skip
def S.inn : S → S
  | .block _ a => a
  | .loop a => a
  | _ => .skip
end Go.Lite
namespace Go.Proofs.Ytchffjnmkpedkaa
open Go.Lite Go.RowKit Go.Lite.Arena
set_option maxHeartbeats 4000000
set_option maxRecDepth 10000

/-- What lies at an arena: its places, and the numbers that no node has. -/
structure AAt (h : Hp) (a : Nat) (most : Int) (S : St) (bs fs : List Nat) : Prop where
  obj : ∃ sl fl, h.get a = some ⟨[.int .i64 most, sl, fl], .own⟩ ∧ SlotsAt h sl S bs ∧ FreeAt h fl (freeOf S) fs
  nd : (a :: (bs ++ fs)).Nodup
  lt : ∀ c ∈ a :: (bs ++ fs), c < h.next
  len : S.length < 1000000

theorem slots_congr {h h' : Hp} {sl : AV} {S : St} {bs : List Nat} (hS : SlotsAt h sl S bs) (hb : ∀ b ∈ bs, h'.get b = h.get b) : SlotsAt h' sl S bs := by
  match bs, hS with
  | [], hh => exact hh
  | [b], ⟨e, hb2⟩ => exact ⟨e, by rw [hb b (by simp)]; exact hb2⟩
theorem free_congr {h h' : Hp} {fl : AV} {free : List Int} {fs : List Nat} (hF : FreeAt h fl free fs) (hb : ∀ b ∈ fs, h'.get b = h.get b) : FreeAt h' fl free fs := by
  match fs, hF with
  | [], hh => exact hh
  | [f], ⟨e, r, h2⟩ => exact ⟨e, r, by rw [hb f (by simp)]; exact h2⟩

/-- What is changed elsewhere. -/
theorem AAt.kept {h h' : Hp} {a : Nat} {most : Int} {S : St} {bs fs l : List Nat} (A : AAt h a most S bs fs) (k : Kept h h' l) (hl : ∀ c ∈ a :: (bs ++ fs), c ∉ l) : AAt h' a most S bs fs := by
  obtain ⟨⟨sl, fl, h1, h2, h3⟩, hn, hlt, hlen⟩ := A
  have hg : ∀ c ∈ a :: (bs ++ fs), h'.get c = h.get c := fun c hc => k.2 c (hlt c hc) (hl c hc)
  exact ⟨⟨sl, fl, by rw [hg a (by simp)]; exact h1, slots_congr h2 fun b hb => hg b (by simp [hb]), free_congr h3 fun b hb => hg b (by simp [hb])⟩, hn, fun c hc => Nat.lt_of_lt_of_le (hlt c hc) k.1, hlen⟩

theorem wait_kept {h h' : Hp} {w : AV} {l : List Int} {q : Nat} (hw : WaitAt h w l q) (hg : h'.get q = h.get q) : WaitAt h' w l q := by
  obtain ⟨cap, rest, kind, e1, e2, e3⟩ := hw
  exact ⟨cap, rest, kind, e1, by rw [hg]; exact e2, e3⟩

theorem freeOf_same {S S' : St} (hlen : S'.length = S.length) (h : ∀ x, rf S' x = 0 ↔ rf S x = 0) : freeOf S' = freeOf S := by
  unfold freeOf
  rw [hlen]
  refine List.filter_congr fun x _ => ?_
  by_cases e : rf S x = 0
  · have e2 := (h x).2 e; rw [e, e2]
  · have e2 : ¬ rf S' x = 0 := fun hh => e ((h x).1 hh)
    rw [beq_eq_false_iff_ne.2 e, beq_eq_false_iff_ne.2 e2]

/-- A count changed, the node still asked for. -/
theorem AAt.turn {h : Hp} {a : Nat} {most : Int} {S S' : St} {b : Nat} {fs : List Nat} (A : AAt h a most S [b] fs) (hlen : S'.length = S.length) (hf : freeOf S' = freeOf S) : AAt (h.put b ⟨S'.flatMap slotC, .grown 26⟩) a most S' [b] fs := by
  obtain ⟨⟨sl, fl, h1, ⟨h2, h2b⟩, h3⟩, hn, hlt, hl⟩ := A
  simp only [List.cons_append, List.nil_append, List.nodup_cons, List.mem_cons, not_or] at hn
  refine ⟨⟨sl, fl, by rw [Hp.get_put, if_neg hn.1.1]; exact h1, ⟨by rw [h2, hlen], by rw [Hp.get_put, if_pos rfl]⟩, ?_⟩, ?_, by simpa using hlt, by omega⟩
  · rw [hf]
    refine free_congr h3 fun f hfm => ?_
    rw [Hp.get_put, if_neg]
    rintro rfl
    exact hn.2.1 hfm
  · simp only [List.cons_append, List.nil_append, List.nodup_cons, List.mem_cons, not_or]; exact hn

/-! ### The pieces of Drop's loop -/
def dA : S := s18_l1.fst
def dB : S := s18_l1.snd.inn
def dB1 : S := dB.snd
def dB2 : S := dB1.snd
def dB3 : S := dB2.snd
def dB4 : S := dB3.snd
def dB5 : S := dB4.snd
def dK : S := dB5.fst.fst
def dG : S := dB5.snd
theorem d_eq : s18_l1 = .seq dA (.block 1 (.seq dB.fst (.seq dB1.fst (.seq dB2.fst (.seq dB3.fst (.seq dB4.fst (.seq (.seq dK (.block 2 (.loop s18_l0))) dG))))))) := rfl

section
variable {k : Nat} {h : Hp} {fr : Fr}

theorem dA_more {base : Option (Nat × Nat)} {n : Nat} {cap : Cap} (g5 : fr.get 5 = some (.slice base (n + 1) cap)) {call : Lite.Callee} : ∃ fr', evalS call k dA fr h = some (.normal, fr', h) ∧ ∀ t, t < 10 → fr'.get t = fr.get t := by
  have g : decide (((n : Int) + 1) > 0) = true := by simp <;> omega
  refine ⟨_, (by simp (maxSteps := 4000000) only [dA, S.fst, evalT_fn, BK.hid, cond_true, cond_false, guess0, List.tail_nil, List.headD_nil, evalS, evalOps, evalOp, evalO, wantedA, opd, opds, optOpd, optInt, putO, frameOf, T.get_set, T.get_nil, Option.map_some, Option.map_none, Nat.reduceEqDiff, if_true, if_false, reduceIte, reduceCtorEq, Nat.reduceAdd, resA, oneOrTuple, binA, binInt, eqA, lenA, capA, unA, partA, partsA, fillA_nil, sliceA, bounds_none, bounds_lo, bounds_hi, bounds_lohi, evalDreg_false, List.take_succ_cons, List.take_zero, List.take_nil, List.drop_zero, List.drop_succ_cons, List.drop_nil, AV.beq, eq_self, hoist, evalD, O.cls, readsOk, List.tail_cons, List.headD_cons, List.nil_append, List.cons_append, List.getLast?_cons_cons, List.getLast?_singleton, Nat.sub_zero, Int.toNat_natCast, ite_self, Nat.add_zero, Nat.zero_add, Nat.zero_mul, Option.isNone_none, Option.isNone_some, Option.isSome_none, Option.isSome_some, Int.reduceBEq, Int.reduceBNe, Int.reduceLT, Int.reduceLE, Int.reduceGT, Int.reduceGE, Int.reduceEq, decide_true, decide_false, Bool.not_true, Bool.not_false, Int.reduceMul, Int.reduceAdd, Int.reduceSub, Int.reduceToNat, Nat.reduceMul, Nat.reduceSub, Nat.reduceLT, Nat.reduceLeDiff, beq_self_eq_true, bne_self_eq_false, Bool.true_beq, Bool.false_beq, ne_eq, not_true_eq_false, not_false_eq_true, Bool.false_eq_true, Bool.or_self, or_self, AV.cells, AV.one, List.all_cons, List.all_nil, Bool.and_true, Bool.true_and, List.length_cons, List.length_nil, splice, List.set_cons_zero, List.set_cons_succ, Nat.le_refl, Nat.reduceLeDiff, iter_succ, readA, readK, loadA, List.getElem?_cons_zero, List.getElem?_cons_succ, Bool.and_self, and_self, and_true, true_and, s18_l1, g5, g, Int.natCast_add, Int.natCast_one]; rfl), fun t ht => ?_⟩
  simp only [T.get_set, show ¬ t = 18 by omega, show ¬ t = 19 by omega, show ¬ t = 20 by omega, if_false]

theorem dA_end {base : Option (Nat × Nat)} {cap : Cap} (g5 : fr.get 5 = some (.slice base 0 cap)) {call : Lite.Callee} : ∃ fr', evalS call k dA fr h = some (.exit 0, fr', h) ∧ ∀ t, t < 10 → fr'.get t = fr.get t := by
  refine ⟨_, (by simp (maxSteps := 4000000) only [dA, S.fst, evalT_fn, BK.hid, cond_true, cond_false, guess0, List.tail_nil, List.headD_nil, evalS, evalOps, evalOp, evalO, wantedA, opd, opds, optOpd, optInt, putO, frameOf, T.get_set, T.get_nil, Option.map_some, Option.map_none, Nat.reduceEqDiff, if_true, if_false, reduceIte, reduceCtorEq, Nat.reduceAdd, resA, oneOrTuple, binA, binInt, eqA, lenA, capA, unA, partA, partsA, fillA_nil, sliceA, bounds_none, bounds_lo, bounds_hi, bounds_lohi, evalDreg_false, List.take_succ_cons, List.take_zero, List.take_nil, List.drop_zero, List.drop_succ_cons, List.drop_nil, AV.beq, eq_self, hoist, evalD, O.cls, readsOk, List.tail_cons, List.headD_cons, List.nil_append, List.cons_append, List.getLast?_cons_cons, List.getLast?_singleton, Nat.sub_zero, Int.toNat_natCast, ite_self, Nat.add_zero, Nat.zero_add, Nat.zero_mul, Option.isNone_none, Option.isNone_some, Option.isSome_none, Option.isSome_some, Int.reduceBEq, Int.reduceBNe, Int.reduceLT, Int.reduceLE, Int.reduceGT, Int.reduceGE, Int.reduceEq, decide_true, decide_false, Bool.not_true, Bool.not_false, Int.reduceMul, Int.reduceAdd, Int.reduceSub, Int.reduceToNat, Nat.reduceMul, Nat.reduceSub, Nat.reduceLT, Nat.reduceLeDiff, beq_self_eq_true, bne_self_eq_false, Bool.true_beq, Bool.false_beq, ne_eq, not_true_eq_false, not_false_eq_true, Bool.false_eq_true, Bool.or_self, or_self, AV.cells, AV.one, List.all_cons, List.all_nil, Bool.and_true, Bool.true_and, List.length_cons, List.length_nil, splice, List.set_cons_zero, List.set_cons_succ, Nat.le_refl, Nat.reduceLeDiff, iter_succ, readA, readK, loadA, List.getElem?_cons_zero, List.getElem?_cons_succ, Bool.and_self, and_self, and_true, true_and, s18_l1, g5, Int.natCast_zero]; rfl), fun t ht => ?_⟩
  simp only [T.get_set, show ¬ t = 18 by omega, show ¬ t = 19 by omega, show ¬ t = 20 by omega, if_false]

theorem d1_ok {w : AV} {l : List Int} {x : Int} {q : Nat} (g5 : fr.get 5 = some w) (hw : WaitAt h w (l ++ [x]) q) (hlen : l.length < 1000000000) {call : Lite.Callee} : ∃ fr', evalS call k dB.fst fr h = some (.normal, fr', h) ∧ fr'.get 6 = some (.int .i64 x) ∧ fr'.get 0 = fr.get 0 ∧ fr'.get 5 = fr.get 5 := by
  obtain ⟨cap, rfl⟩ := wait_len hw
  have c1 := wait_cell hw (i := l.length) (x := x) (by simp)
  have hl : (l ++ [x]).length = l.length + 1 := by simp
  rw [hl] at g5
  have w1 : IntKind.i64.wrap ((l.length : Int) + 1 - 1) = l.length := by rw [wrap_id (by omega) (by omega)]; omega
  have b1 : 0 ≤ (l.length : Int) ∧ (l.length : Int) < (l.length : Int) + 1 := by omega
  refine ⟨_, (by simp (maxSteps := 4000000) only [dB, S.fst, S.snd, S.inn, evalT_fn, BK.hid, cond_true, cond_false, guess0, List.tail_nil, List.headD_nil, evalS, evalOps, evalOp, evalO, wantedA, opd, opds, optOpd, optInt, putO, frameOf, T.get_set, T.get_nil, Option.map_some, Option.map_none, Nat.reduceEqDiff, if_true, if_false, reduceIte, reduceCtorEq, Nat.reduceAdd, resA, oneOrTuple, binA, binInt, eqA, lenA, capA, unA, partA, partsA, fillA_nil, sliceA, bounds_none, bounds_lo, bounds_hi, bounds_lohi, evalDreg_false, List.take_succ_cons, List.take_zero, List.take_nil, List.drop_zero, List.drop_succ_cons, List.drop_nil, AV.beq, eq_self, hoist, evalD, O.cls, readsOk, List.tail_cons, List.headD_cons, List.nil_append, List.cons_append, List.getLast?_cons_cons, List.getLast?_singleton, Nat.sub_zero, Int.toNat_natCast, ite_self, Nat.add_zero, Nat.zero_add, Nat.zero_mul, Option.isNone_none, Option.isNone_some, Option.isSome_none, Option.isSome_some, Int.reduceBEq, Int.reduceBNe, Int.reduceLT, Int.reduceLE, Int.reduceGT, Int.reduceGE, Int.reduceEq, decide_true, decide_false, Bool.not_true, Bool.not_false, Int.reduceMul, Int.reduceAdd, Int.reduceSub, Int.reduceToNat, Nat.reduceMul, Nat.reduceSub, Nat.reduceLT, Nat.reduceLeDiff, beq_self_eq_true, bne_self_eq_false, Bool.true_beq, Bool.false_beq, ne_eq, not_true_eq_false, not_false_eq_true, Bool.false_eq_true, Bool.or_self, or_self, AV.cells, AV.one, List.all_cons, List.all_nil, Bool.and_true, Bool.true_and, List.length_cons, List.length_nil, splice, List.set_cons_zero, List.set_cons_succ, Nat.le_refl, Nat.reduceLeDiff, iter_succ, readA, readK, loadA, List.getElem?_cons_zero, List.getElem?_cons_succ, Bool.and_self, and_self, and_true, true_and, s18_l1, g5, w1, b1, c1, Nat.mul_one, Int.natCast_add, Int.natCast_one]; rfl), by simp [T.get_set], by simp [T.get_set], by simp [T.get_set, g5]⟩

theorem d2_ok {w : AV} {l : List Int} {x : Int} {q : Nat} (g5 : fr.get 5 = some w) (hw : WaitAt h w (l ++ [x]) q) (hlen : l.length < 1000000000) {call : Lite.Callee} : ∃ fr' w', evalS call k dB1.fst fr h = some (.normal, fr', h) ∧ fr'.get 5 = some w' ∧ WaitAt h w' l q ∧ fr'.get 0 = fr.get 0 ∧ fr'.get 6 = fr.get 6 := by
  obtain ⟨w', e1, hw'⟩ := pop_ok hw
  obtain ⟨cap, rfl⟩ := wait_len hw
  have hl : (l ++ [x]).length = l.length + 1 := by simp
  rw [hl] at g5 e1
  have w1 : IntKind.i64.wrap ((l.length : Int) + 1 - 1) = l.length := by rw [wrap_id (by omega) (by omega)]; omega
  refine ⟨_, w', (by simp (maxSteps := 4000000) only [dB1, dB, S.fst, S.snd, S.inn, evalS, evalOps, evalOp, evalO, wantedA, opd, opds, optOpd, optInt, putO, T.get_set, Nat.reduceEqDiff, if_true, if_false, reduceIte, reduceCtorEq, Option.map_some, lenA, binA, binInt,
    s18_l1, g5, w1, e1, Int.natCast_add, Int.natCast_one]; rfl), by simp [T.get_set], hw', by simp [T.get_set], by simp [T.get_set]⟩

theorem d3_ok {F : FuncId → Option Def} {a : Nat × Nat} {x : Int} {p : AV} (g0 : fr.get 0 = some (.ptr (some a))) (g6 : fr.get 6 = some (.int .i64 x)) (e1 : evalFn F k 48 [.ptr (some a), .int .i64 x] h = some (p, h)) :
    ∃ fr', evalS (evalT F k) k dB2.fst fr h = some (.normal, fr', h) ∧ fr'.get 7 = some p ∧ fr'.get 0 = fr.get 0 ∧ fr'.get 6 = fr.get 6 ∧ fr'.get 5 = fr.get 5 := by
  refine ⟨_, (by simp (maxSteps := 4000000) only [dB2, dB1, dB, S.fst, S.snd, S.inn, evalT_fn, BK.hid, cond_true, cond_false, guess0, List.tail_nil, List.headD_nil, evalS, evalOps, evalOp, evalO, wantedA, opd, opds, optOpd, optInt, putO, frameOf, T.get_set, T.get_nil, Option.map_some, Option.map_none, Nat.reduceEqDiff, if_true, if_false, reduceIte, reduceCtorEq, Nat.reduceAdd, resA, oneOrTuple, binA, binInt, eqA, lenA, capA, unA, partA, partsA, fillA_nil, sliceA, bounds_none, bounds_lo, bounds_hi, bounds_lohi, evalDreg_false, List.take_succ_cons, List.take_zero, List.take_nil, List.drop_zero, List.drop_succ_cons, List.drop_nil, AV.beq, eq_self, hoist, evalD, O.cls, readsOk, List.tail_cons, List.headD_cons, List.nil_append, List.cons_append, List.getLast?_cons_cons, List.getLast?_singleton, Nat.sub_zero, Int.toNat_natCast, ite_self, Nat.add_zero, Nat.zero_add, Nat.zero_mul, Option.isNone_none, Option.isNone_some, Option.isSome_none, Option.isSome_some, Int.reduceBEq, Int.reduceBNe, Int.reduceLT, Int.reduceLE, Int.reduceGT, Int.reduceGE, Int.reduceEq, decide_true, decide_false, Bool.not_true, Bool.not_false, Int.reduceMul, Int.reduceAdd, Int.reduceSub, Int.reduceToNat, Nat.reduceMul, Nat.reduceSub, Nat.reduceLT, Nat.reduceLeDiff, beq_self_eq_true, bne_self_eq_false, Bool.true_beq, Bool.false_beq, ne_eq, not_true_eq_false, not_false_eq_true, Bool.false_eq_true, Bool.or_self, or_self, AV.cells, AV.one, List.all_cons, List.all_nil, Bool.and_true, Bool.true_and, List.length_cons, List.length_nil, splice, List.set_cons_zero, List.set_cons_succ, Nat.le_refl, Nat.reduceLeDiff, iter_succ, readA, readK, loadA, List.getElem?_cons_zero, List.getElem?_cons_succ, Bool.and_self, and_self, and_true, true_and, s18_l1, g0, g6, e1]; rfl), by simp [T.get_set], by simp [T.get_set, g0], by simp [T.get_set, g6], by simp [T.get_set]⟩

theorem d4_nil (g7 : fr.get 7 = some (.ptr none)) {call : Lite.Callee} : ∃ fr', evalS call k dB3.fst fr h = some (.exit 1, fr', h) ∧ ∀ t, t < 10 → fr'.get t = fr.get t := by
  refine ⟨_, (by simp (maxSteps := 4000000) only [dB3, dB2, dB1, dB, S.fst, S.snd, S.inn, evalT_fn, BK.hid, cond_true, cond_false, guess0, List.tail_nil, List.headD_nil, evalS, evalOps, evalOp, evalO, wantedA, opd, opds, optOpd, optInt, putO, frameOf, T.get_set, T.get_nil, Option.map_some, Option.map_none, Nat.reduceEqDiff, if_true, if_false, reduceIte, reduceCtorEq, Nat.reduceAdd, resA, oneOrTuple, binA, binInt, eqA, lenA, capA, unA, partA, partsA, fillA_nil, sliceA, bounds_none, bounds_lo, bounds_hi, bounds_lohi, evalDreg_false, List.take_succ_cons, List.take_zero, List.take_nil, List.drop_zero, List.drop_succ_cons, List.drop_nil, AV.beq, eq_self, hoist, evalD, O.cls, readsOk, List.tail_cons, List.headD_cons, List.nil_append, List.cons_append, List.getLast?_cons_cons, List.getLast?_singleton, Nat.sub_zero, Int.toNat_natCast, ite_self, Nat.add_zero, Nat.zero_add, Nat.zero_mul, Option.isNone_none, Option.isNone_some, Option.isSome_none, Option.isSome_some, Int.reduceBEq, Int.reduceBNe, Int.reduceLT, Int.reduceLE, Int.reduceGT, Int.reduceGE, Int.reduceEq, decide_true, decide_false, Bool.not_true, Bool.not_false, Int.reduceMul, Int.reduceAdd, Int.reduceSub, Int.reduceToNat, Nat.reduceMul, Nat.reduceSub, Nat.reduceLT, Nat.reduceLeDiff, beq_self_eq_true, bne_self_eq_false, Bool.true_beq, Bool.false_beq, ne_eq, not_true_eq_false, not_false_eq_true, Bool.false_eq_true, Bool.or_self, or_self, AV.cells, AV.one, List.all_cons, List.all_nil, Bool.and_true, Bool.true_and, List.length_cons, List.length_nil, splice, List.set_cons_zero, List.set_cons_succ, Nat.le_refl, Nat.reduceLeDiff, iter_succ, readA, readK, loadA, List.getElem?_cons_zero, List.getElem?_cons_succ, Bool.and_self, and_self, and_true, true_and, s18_l1, g7]; rfl), fun t ht => ?_⟩
  simp only [T.get_set, show ¬ t = 35 by omega, show ¬ t = 36 by omega, if_false]

theorem d4_some {p : Nat × Nat} (g7 : fr.get 7 = some (.ptr (some p))) {call : Lite.Callee} : ∃ fr', evalS call k dB3.fst fr h = some (.normal, fr', h) ∧ ∀ t, t < 10 → fr'.get t = fr.get t := by
  refine ⟨_, (by simp (maxSteps := 4000000) only [dB3, dB2, dB1, dB, S.fst, S.snd, S.inn, evalT_fn, BK.hid, cond_true, cond_false, guess0, List.tail_nil, List.headD_nil, evalS, evalOps, evalOp, evalO, wantedA, opd, opds, optOpd, optInt, putO, frameOf, T.get_set, T.get_nil, Option.map_some, Option.map_none, Nat.reduceEqDiff, if_true, if_false, reduceIte, reduceCtorEq, Nat.reduceAdd, resA, oneOrTuple, binA, binInt, eqA, lenA, capA, unA, partA, partsA, fillA_nil, sliceA, bounds_none, bounds_lo, bounds_hi, bounds_lohi, evalDreg_false, List.take_succ_cons, List.take_zero, List.take_nil, List.drop_zero, List.drop_succ_cons, List.drop_nil, AV.beq, eq_self, hoist, evalD, O.cls, readsOk, List.tail_cons, List.headD_cons, List.nil_append, List.cons_append, List.getLast?_cons_cons, List.getLast?_singleton, Nat.sub_zero, Int.toNat_natCast, ite_self, Nat.add_zero, Nat.zero_add, Nat.zero_mul, Option.isNone_none, Option.isNone_some, Option.isSome_none, Option.isSome_some, Int.reduceBEq, Int.reduceBNe, Int.reduceLT, Int.reduceLE, Int.reduceGT, Int.reduceGE, Int.reduceEq, decide_true, decide_false, Bool.not_true, Bool.not_false, Int.reduceMul, Int.reduceAdd, Int.reduceSub, Int.reduceToNat, Nat.reduceMul, Nat.reduceSub, Nat.reduceLT, Nat.reduceLeDiff, beq_self_eq_true, bne_self_eq_false, Bool.true_beq, Bool.false_beq, ne_eq, not_true_eq_false, not_false_eq_true, Bool.false_eq_true, Bool.or_self, or_self, AV.cells, AV.one, List.all_cons, List.all_nil, Bool.and_true, Bool.true_and, List.length_cons, List.length_nil, splice, List.set_cons_zero, List.set_cons_succ, Nat.le_refl, Nat.reduceLeDiff, iter_succ, readA, readK, loadA, List.getElem?_cons_zero, List.getElem?_cons_succ, Bool.and_self, and_self, and_true, true_and, s18_l1, g7]; rfl), fun t ht => ?_⟩
  simp only [T.get_set, show ¬ t = 35 by omega, show ¬ t = 36 by omega, if_false]

theorem d5_ok {b o : Nat} {r : Int} {h1 : Hp} (g7 : fr.get 7 = some (.ptr (some (b, o)))) (c1 : h.cell (b, o + 25) = some (.int .i64 (r + 1))) (w1 : h.write (b, o + 25) [.int .i64 r] = some h1) (c2 : h1.cell (b, o + 25) = some (.int .i64 r)) (hr0 : 0 ≤ r) (hr : r < 1000000000) {call : Lite.Callee} :
    ∃ fr', evalS call k dB4.fst fr h = some (if r = 0 then X.normal else X.exit 1, fr', h1) ∧ ∀ t, t < 10 → fr'.get t = fr.get t := by
  have w2 : IntKind.i64.wrap (r + 1 - 1) = r := by rw [wrap_id (by omega) (by omega)]; omega
  have fin : ∀ (fr' : Fr), fr' = (((((((((((fr.set 37 (some (.ptr (some (b, o))))).set 38 (some (.ptr (some (b, o))))).set 39 (some (.ptr (some (b, o + 25))))).set 40 (some (.int .i64 (r + 1)))).set 41 (some (.int .i64 r))).set 42 (some (.ptr (some (b, o))))).set 43 (some (.ptr (some (b, o + 25))))).set 44 (some (.ptr (some (b, o))))).set 45 (some (.ptr (some (b, o))))).set 46 (some (.ptr (some (b, o + 25))))).set 47 (some (.int .i64 r))).set 48 (some (.bool (decide (r > 0)))) →
      ∀ t, t < 10 → fr'.get t = fr.get t := by
    rintro fr' rfl t ht
    simp only [T.get_set, show ¬ t = 37 by omega, show ¬ t = 38 by omega, show ¬ t = 39 by omega, show ¬ t = 40 by omega, show ¬ t = 41 by omega, show ¬ t = 42 by omega, show ¬ t = 43 by omega, show ¬ t = 44 by omega, show ¬ t = 45 by omega, show ¬ t = 46 by omega, show ¬ t = 47 by omega, show ¬ t = 48 by omega, if_false]
  by_cases h0 : r = 0
  · have g : decide (r > 0) = false := by simp; omega
    refine ⟨_, ?_, fin _ rfl⟩
    simp (maxSteps := 4000000) only [dB4, dB3, dB2, dB1, dB, S.fst, S.snd, S.inn, evalT_fn, BK.hid, cond_true, cond_false, guess0, List.tail_nil, List.headD_nil, evalS, evalOps, evalOp, evalO, wantedA, opd, opds, optOpd, optInt, putO, frameOf, T.get_set, T.get_nil, Option.map_some, Option.map_none, Nat.reduceEqDiff, if_true, if_false, reduceIte, reduceCtorEq, Nat.reduceAdd, resA, oneOrTuple, binA, binInt, eqA, lenA, capA, unA, partA, partsA, fillA_nil, sliceA, bounds_none, bounds_lo, bounds_hi, bounds_lohi, evalDreg_false, List.take_succ_cons, List.take_zero, List.take_nil, List.drop_zero, List.drop_succ_cons, List.drop_nil, AV.beq, eq_self, hoist, evalD, O.cls, readsOk, List.tail_cons, List.headD_cons, List.nil_append, List.cons_append, List.getLast?_cons_cons, List.getLast?_singleton, Nat.sub_zero, Int.toNat_natCast, ite_self, Nat.add_zero, Nat.zero_add, Nat.zero_mul, Option.isNone_none, Option.isNone_some, Option.isSome_none, Option.isSome_some, Int.reduceBEq, Int.reduceBNe, Int.reduceLT, Int.reduceLE, Int.reduceGT, Int.reduceGE, Int.reduceEq, decide_true, decide_false, Bool.not_true, Bool.not_false, Int.reduceMul, Int.reduceAdd, Int.reduceSub, Int.reduceToNat, Nat.reduceMul, Nat.reduceSub, Nat.reduceLT, Nat.reduceLeDiff, beq_self_eq_true, bne_self_eq_false, Bool.true_beq, Bool.false_beq, ne_eq, not_true_eq_false, not_false_eq_true, Bool.false_eq_true, Bool.or_self, or_self, AV.cells, AV.one, List.all_cons, List.all_nil, Bool.and_true, Bool.true_and, List.length_cons, List.length_nil, splice, List.set_cons_zero, List.set_cons_succ, Nat.le_refl, Nat.reduceLeDiff, iter_succ, readA, readK, loadA, List.getElem?_cons_zero, List.getElem?_cons_succ, Bool.and_self, and_self, and_true, true_and, s18_l1, g7, c1, w1, c2, w2, g, if_pos h0]
  · have g : decide (r > 0) = true := by simp; omega
    refine ⟨_, ?_, fin _ rfl⟩
    simp (maxSteps := 4000000) only [dB4, dB3, dB2, dB1, dB, S.fst, S.snd, S.inn, evalT_fn, BK.hid, cond_true, cond_false, guess0, List.tail_nil, List.headD_nil, evalS, evalOps, evalOp, evalO, wantedA, opd, opds, optOpd, optInt, putO, frameOf, T.get_set, T.get_nil, Option.map_some, Option.map_none, Nat.reduceEqDiff, if_true, if_false, reduceIte, reduceCtorEq, Nat.reduceAdd, resA, oneOrTuple, binA, binInt, eqA, lenA, capA, unA, partA, partsA, fillA_nil, sliceA, bounds_none, bounds_lo, bounds_hi, bounds_lohi, evalDreg_false, List.take_succ_cons, List.take_zero, List.take_nil, List.drop_zero, List.drop_succ_cons, List.drop_nil, AV.beq, eq_self, hoist, evalD, O.cls, readsOk, List.tail_cons, List.headD_cons, List.nil_append, List.cons_append, List.getLast?_cons_cons, List.getLast?_singleton, Nat.sub_zero, Int.toNat_natCast, ite_self, Nat.add_zero, Nat.zero_add, Nat.zero_mul, Option.isNone_none, Option.isNone_some, Option.isSome_none, Option.isSome_some, Int.reduceBEq, Int.reduceBNe, Int.reduceLT, Int.reduceLE, Int.reduceGT, Int.reduceGE, Int.reduceEq, decide_true, decide_false, Bool.not_true, Bool.not_false, Int.reduceMul, Int.reduceAdd, Int.reduceSub, Int.reduceToNat, Nat.reduceMul, Nat.reduceSub, Nat.reduceLT, Nat.reduceLeDiff, beq_self_eq_true, bne_self_eq_false, Bool.true_beq, Bool.false_beq, ne_eq, not_true_eq_false, not_false_eq_true, Bool.false_eq_true, Bool.or_self, or_self, AV.cells, AV.one, List.all_cons, List.all_nil, Bool.and_true, Bool.true_and, List.length_cons, List.length_nil, splice, List.set_cons_zero, List.set_cons_succ, Nat.le_refl, Nat.reduceLeDiff, iter_succ, readA, readK, loadA, List.getElem?_cons_zero, List.getElem?_cons_succ, Bool.and_self, and_self, and_true, true_and, s18_l1, g7, c1, w1, c2, w2, g, if_neg h0]

theorem dK_ok {b o : Nat} {cs : List AV} (g7 : fr.get 7 = some (.ptr (some (b, o)))) (c1 : h.cells (b, o + 1) 8 = some cs) {call : Lite.Callee} :
    ∃ fr', evalS call k dK fr h = some (.normal, fr', h) ∧ fr'.get 53 = some (.agg cs) ∧ fr'.get 54 = some (.int .i64 0) ∧ ∀ t, t < 10 → fr'.get t = fr.get t := by
  refine ⟨_, (by simp (maxSteps := 4000000) only [dK, dB5, dB4, dB3, dB2, dB1, dB, S.fst, S.snd, S.inn, evalT_fn, BK.hid, cond_true, cond_false, guess0, List.tail_nil, List.headD_nil, evalS, evalOps, evalOp, evalO, wantedA, opd, opds, optOpd, optInt, putO, frameOf, T.get_set, T.get_nil, Option.map_some, Option.map_none, Nat.reduceEqDiff, if_true, if_false, reduceIte, reduceCtorEq, Nat.reduceAdd, resA, oneOrTuple, binA, binInt, eqA, lenA, capA, unA, partA, partsA, fillA_nil, sliceA, bounds_none, bounds_lo, bounds_hi, bounds_lohi, evalDreg_false, List.take_succ_cons, List.take_zero, List.take_nil, List.drop_zero, List.drop_succ_cons, List.drop_nil, AV.beq, eq_self, hoist, evalD, O.cls, readsOk, List.tail_cons, List.headD_cons, List.nil_append, List.cons_append, List.getLast?_cons_cons, List.getLast?_singleton, Nat.sub_zero, Int.toNat_natCast, ite_self, Nat.add_zero, Nat.zero_add, Nat.zero_mul, Option.isNone_none, Option.isNone_some, Option.isSome_none, Option.isSome_some, Int.reduceBEq, Int.reduceBNe, Int.reduceLT, Int.reduceLE, Int.reduceGT, Int.reduceGE, Int.reduceEq, decide_true, decide_false, Bool.not_true, Bool.not_false, Int.reduceMul, Int.reduceAdd, Int.reduceSub, Int.reduceToNat, Nat.reduceMul, Nat.reduceSub, Nat.reduceLT, Nat.reduceLeDiff, beq_self_eq_true, bne_self_eq_false, Bool.true_beq, Bool.false_beq, ne_eq, not_true_eq_false, not_false_eq_true, Bool.false_eq_true, Bool.or_self, or_self, AV.cells, AV.one, List.all_cons, List.all_nil, Bool.and_true, Bool.true_and, List.length_cons, List.length_nil, splice, List.set_cons_zero, List.set_cons_succ, Nat.le_refl, Nat.reduceLeDiff, iter_succ, readA, readK, loadA, List.getElem?_cons_zero, List.getElem?_cons_succ, Bool.and_self, and_self, and_true, true_and, s18_l1, g7, c1]; rfl), by simp [T.get_set], by simp [T.get_set], fun t ht => ?_⟩
  simp only [T.get_set, show ¬ t = 49 by omega, show ¬ t = 50 by omega, show ¬ t = 51 by omega, show ¬ t = 52 by omega, show ¬ t = 53 by omega, show ¬ t = 54 by omega, if_false]

theorem dG_ok {F : FuncId → Option Def} {a : Nat × Nat} {x : Int} {v : AV} {h' : Hp} (g0 : fr.get 0 = some (.ptr (some a))) (g6 : fr.get 6 = some (.int .i64 x)) (e1 : evalFn F k 51 [.ptr (some a), .int .i64 x] h = some (v, h')) :
    ∃ fr', evalS (evalT F k) k dG fr h = some (.normal, fr', h') ∧ ∀ t, t < 10 → fr'.get t = fr.get t := by
  refine ⟨_, (by simp (maxSteps := 4000000) only [dG, dB5, dB4, dB3, dB2, dB1, dB, S.fst, S.snd, S.inn, evalT_fn, BK.hid, cond_true, cond_false, guess0, List.tail_nil, List.headD_nil, evalS, evalOps, evalOp, evalO, wantedA, opd, opds, optOpd, optInt, putO, frameOf, T.get_set, T.get_nil, Option.map_some, Option.map_none, Nat.reduceEqDiff, if_true, if_false, reduceIte, reduceCtorEq, Nat.reduceAdd, resA, oneOrTuple, binA, binInt, eqA, lenA, capA, unA, partA, partsA, fillA_nil, sliceA, bounds_none, bounds_lo, bounds_hi, bounds_lohi, evalDreg_false, List.take_succ_cons, List.take_zero, List.take_nil, List.drop_zero, List.drop_succ_cons, List.drop_nil, AV.beq, eq_self, hoist, evalD, O.cls, readsOk, List.tail_cons, List.headD_cons, List.nil_append, List.cons_append, List.getLast?_cons_cons, List.getLast?_singleton, Nat.sub_zero, Int.toNat_natCast, ite_self, Nat.add_zero, Nat.zero_add, Nat.zero_mul, Option.isNone_none, Option.isNone_some, Option.isSome_none, Option.isSome_some, Int.reduceBEq, Int.reduceBNe, Int.reduceLT, Int.reduceLE, Int.reduceGT, Int.reduceGE, Int.reduceEq, decide_true, decide_false, Bool.not_true, Bool.not_false, Int.reduceMul, Int.reduceAdd, Int.reduceSub, Int.reduceToNat, Nat.reduceMul, Nat.reduceSub, Nat.reduceLT, Nat.reduceLeDiff, beq_self_eq_true, bne_self_eq_false, Bool.true_beq, Bool.false_beq, ne_eq, not_true_eq_false, not_false_eq_true, Bool.false_eq_true, Bool.or_self, or_self, AV.cells, AV.one, List.all_cons, List.all_nil, Bool.and_true, Bool.true_and, List.length_cons, List.length_nil, splice, List.set_cons_zero, List.set_cons_succ, Nat.le_refl, Nat.reduceLeDiff, iter_succ, readA, readK, loadA, List.getElem?_cons_zero, List.getElem?_cons_succ, Bool.and_self, and_self, and_true, true_and, s18_l1, g0, g6, e1]; rfl), fun t ht => ?_⟩
  simp only [T.get_set, show ¬ t = 64 by omega, show ¬ t = 65 by omega, show ¬ t = 66 by omega, if_false]
end

end Go.Proofs.Ytchffjnmkpedkaa
