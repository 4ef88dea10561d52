/-
  The arena: a place is taken, a place is given back. Own work of this session.
-/
import Derived.Test.YtchffjnmkpedkaaAr
set_option linter.unusedSectionVars false
set_option linter.unusedSimpArgs false
set_option linter.unusedVariables false
namespace Go.Proofs.Ytchffjnmkpedkaa
set_option linter.unusedSectionVars false
set_option linter.unusedSimpArgs false
set_option linter.unusedVariables false
open Go.Lite Go.RowKit Go.Lite.Arena
set_option maxHeartbeats 4000000
set_option maxRecDepth 10000

theorem F2_place : F2 50 = some (.text s50) := rfl

def zS : List AV := [(.bool false), (.int .i64 0), (.int .i64 0), (.int .i64 0), (.int .i64 0), (.int .i64 0), (.int .i64 0), (.int .i64 0), (.int .i64 0), (.int .i64 0), (.bool false), (.int .i64 0), (.bool false), (.int .i64 0), (.bool false), (.int .i64 0), (.bool false), (.int .i64 0), (.bool false), (.int .i64 0), (.bool false), (.int .i64 0), (.bool false), (.int .i64 0), (.bool false), (.int .i64 0)]
def zNd : Nd := ⟨false, List.replicate 8 0, List.replicate 8 (0, false), rfl, rfl⟩
theorem zS_eq : zS = slotC (zNd, 0) := rfl

/-- What has been changed lies among these blocks, or is new. -/
def Kept (h h' : Hp) (l : List Nat) : Prop := h.next ≤ h'.next ∧ ∀ c, c < h.next → c ∉ l → h'.get c = h.get c

theorem Kept.refl (h : Hp) (l : List Nat) : Kept h h l := ⟨Nat.le_refl _, fun _ _ _ => rfl⟩

section
variable {h : Hp} {a : Nat} {most : Int} {sl fl : AV} {S : St} {bs : List Nat}

/-- A place at the end. -/
theorem place_end {n : Nat} (hn : 0 < n) {bf : Option (Nat × Nat)} {cf : Cap} (hA : h.get a = some ⟨[.int .i64 most, sl, .slice bf 0 cf], .own⟩) (hS : SlotsAt h sl S bs) (hlen : S.length < 1000000) (ha : a < h.next) (hb : ∀ b ∈ bs, b < h.next ∧ b ≠ a) :
    ∃ h', evalFn F2 n 50 [.ptr (some (a, 0))] h = some (.int .i64 ((S.length : Int) + 1), h') ∧
      h'.get a = some ⟨[.int .i64 most, .slice (some (h.next + 1, 0)) (S.length + 1) (.more 26), .slice bf 0 cf], .own⟩ ∧
      h'.get (h.next + 1) = some ⟨(S ++ [(zNd, 0)]).flatMap slotC, .grown 26⟩ ∧ h'.next = h.next + 2 ∧ Kept h h' (a :: bs) := by
  obtain ⟨k, rfl⟩ : ∃ k, n = k + 1 := ⟨n - 1, by omega⟩
  have c2 : h.cell (a, 2) = some (.slice bf 0 cf) := by rw [Hp.cell_at hA rfl]; rfl
  have hA1 : (h.new ⟨zS, .own⟩).get a = some ⟨[.int .i64 most, sl, .slice bf 0 cf], .own⟩ := by rw [get_new_ne ha]; exact hA
  have c1 : h.cell (a, 1) = some sl := by rw [Hp.cell_at hA rfl]; rfl
  have f1 : fillA zS [(0, 26, .agg zS)] = some zS := rfl
  have hz : (h.new ⟨zS, .own⟩).cells (h.next, 0) (1 * 26) = some zS := cells_new rfl
  obtain ⟨h2, hap, g1, g2, g3, g4⟩ : ∃ h2, appendA (h.new ⟨zS, .own⟩) 26 208 sl (.slice (some (h.next, 0)) 1 (.known 1)) = some (.slice (some (h.next + 1, 0)) (S.length + 1) (.more 26), h2) ∧
      h2.get a = some ⟨[.int .i64 most, sl, .slice bf 0 cf], .own⟩ ∧ h2.get (h.next + 1) = some ⟨(S ++ [(zNd, 0)]).flatMap slotC, .grown 26⟩ ∧ h2.next = h.next + 2 ∧ ∀ c, c < h.next → c ∉ bs → h2.get c = h.get c := by
    have hflat : (S ++ [(zNd, 0)]).flatMap slotC = S.flatMap slotC ++ zS := by rw [List.flatMap_append, zS_eq]; simp
    match bs, hS with
    | [], ⟨e, e2⟩ =>
      subst e; subst e2
      refine ⟨(h.new ⟨zS, .own⟩).new ⟨zS, .grown 26⟩, ?_, ?_, ?_, rfl, ?_⟩
      · simp only [appendA, lenOfA, firstA, hz]
        rw [if_neg (by omega), if_pos (by simp [maxLenB])]
        simp only [List.length_nil]
        rw [if_pos (by refine ⟨rfl, ?_, ?_⟩ <;> first | rfl | trivial)]
        simp only [growA]
        rw [if_neg (by omega)]
        rfl
      · rw [Hp.get_new, if_neg (by simp; omega)]; exact hA1
      · rw [Hp.get_new, if_pos (by rfl)]; rfl
      · intro c hc _
        rw [Hp.get_new, if_neg (by simp; omega), get_new_ne hc]
    | [b], ⟨e, hb2⟩ =>
      subst e
      obtain ⟨hbn, hba⟩ := hb b (by simp)
      have hb3 : (h.new ⟨zS, .own⟩).get b = some ⟨S.flatMap slotC, .grown 26⟩ := by rw [get_new_ne hbn]; exact hb2
      have hfl := flat_length slotC_len S
      have hold : (h.new ⟨zS, .own⟩).cells (b, 0) (S.length * 26) = some (S.flatMap slotC) := by
        rw [Hp.cells_at hb3 rfl (by rw [hfl]; omega), List.drop_zero, List.take_of_length_le (by rw [hfl]; omega)]
      refine ⟨((h.new ⟨zS, .own⟩).kill b).new ⟨S.flatMap slotC ++ zS, .grown 26⟩, ?_, ?_, ?_, rfl, ?_⟩
      · simp only [appendA, lenOfA, firstA, hz, hold]
        rw [if_neg (by omega), if_pos (by simp [maxLenB]; omega), if_pos (by refine ⟨rfl, ?_, ?_⟩ <;> first | rfl | trivial | exact hfl)]
        simp only [growA, hb3]
        rw [if_pos (by refine ⟨?_, ?_⟩ <;> first | rfl | trivial)]
        rfl
      · rw [Hp.get_new, if_neg (by simp; omega), Hp.get_kill, if_neg (fun e => hba e.symm)]; exact hA1
      · rw [Hp.get_new, if_pos (by rfl), hflat]
      · intro c hc hcb
        rw [Hp.get_new, if_neg (by simp; omega), Hp.get_kill, if_neg (by simpa using hcb), get_new_ne hc]
  have w1 : h2.write (a, 1) [.slice (some (h.next + 1, 0)) (S.length + 1) (.more 26)] = some (h2.put a ⟨[.int .i64 most, .slice (some (h.next + 1, 0)) (S.length + 1) (.more 26), .slice bf 0 cf], .own⟩) := by
    rw [Hp.write_at g1 rfl (by simp) (by simp) (by simp [AV.one])]; rfl
  have c3 : (h2.put a ⟨[.int .i64 most, .slice (some (h.next + 1, 0)) (S.length + 1) (.more 26), .slice bf 0 cf], .own⟩).cell (a, 1) = some (.slice (some (h.next + 1, 0)) (S.length + 1) (.more 26)) := by
    rw [Hp.cell_at (by rw [Hp.get_put, if_pos rfl]) rfl]; rfl
  have hsl : sl.one = true := by
    match bs, hS with
    | [], ⟨_, e2⟩ => subst e2; rfl
    | [b], ⟨e, _⟩ => subst e; rfl
  refine ⟨h2.put a ⟨[.int .i64 most, .slice (some (h.next + 1, 0)) (S.length + 1) (.more 26), .slice bf 0 cf], .own⟩, ?_, ?_, ?_, ?_, ?_⟩
  · unfold zS at f1 hap
    simp (maxSteps := 4000000) only [evalFn_text F2_place, evalT_fn, BK.hid, cond_true, cond_false, guess0, List.tail_nil, List.headD_nil, evalS, evalOps, evalOp, evalO, wantedA, opd, opds, optOpd, optInt, putO, frameOf, T.get_set, T.get_nil, Option.map_some, Option.map_none, Nat.reduceEqDiff, if_true, if_false, reduceIte, reduceCtorEq, Nat.reduceAdd, resA, oneOrTuple, binA, binInt, eqA, lenA, capA, unA, partA, partsA, fillA_nil, sliceA, bounds_none, bounds_lo, bounds_hi, bounds_lohi, evalDreg_false, List.take_succ_cons, List.take_zero, List.take_nil, List.drop_zero, List.drop_succ_cons, List.drop_nil, AV.beq, eq_self, hoist, evalD, O.cls, readsOk, List.tail_cons, List.headD_cons, List.nil_append, List.cons_append, List.getLast?_cons_cons, List.getLast?_singleton, Nat.sub_zero, Int.toNat_natCast, ite_self, Nat.add_zero, Nat.zero_add, Nat.zero_mul, Option.isNone_none, Option.isNone_some, Option.isSome_none, Option.isSome_some, Int.reduceBEq, Int.reduceBNe, Int.reduceLT, Int.reduceLE, Int.reduceGT, Int.reduceGE, Int.reduceEq, decide_true, decide_false, Bool.not_true, Bool.not_false, Int.reduceMul, Int.reduceAdd, Int.reduceSub, Int.reduceToNat, Nat.reduceMul, Nat.reduceSub, Nat.reduceLT, Nat.reduceLeDiff, beq_self_eq_true, bne_self_eq_false, Bool.true_beq, Bool.false_beq, ne_eq, not_true_eq_false, not_false_eq_true, Bool.false_eq_true, Bool.or_self, or_self, AV.cells, AV.one, List.all_cons, List.all_nil, Bool.and_true, Bool.true_and, List.length_cons, List.length_nil, splice, List.set_cons_zero, List.set_cons_succ, Nat.le_refl, Nat.reduceLeDiff, iter_succ, readA, readK, loadA, List.getElem?_cons_zero, List.getElem?_cons_succ, Bool.and_self, and_self, and_true, true_and, s50, c2, c1, f1, hap, w1, c3, Int.natCast_add, Int.natCast_zero, Int.natCast_one]
  · rw [Hp.get_put, if_pos rfl]
  · rw [Hp.get_put, if_neg (by omega)]; exact g2
  · simpa using g3
  · refine ⟨by simp [g3], fun c hc hcl => ?_⟩
    simp only [List.mem_cons, not_or] at hcl
    rw [Hp.get_put, if_neg hcl.1]; exact g4 c hc hcl.2

/-- A place that was given back. -/
theorem place_free {n : Nat} (hn : 0 < n) {f m : Nat} {free : List Int} {rest : List AV} (hA : h.get a = some ⟨[.int .i64 most, sl, .slice (some (f, 0)) (m + 1) (.more 1)], .own⟩) (hf : h.get f = some ⟨free.map (AV.int .i64) ++ rest, .grown 1⟩) (hm : free.length = m + 1) (hlen : m < 1000000)
    (id : Int) (hid : free[m]? = some id) :
    evalFn F2 n 50 [.ptr (some (a, 0))] h = some (.int .i64 id, h.put a ⟨[.int .i64 most, sl, .slice (some (f, 0)) m (.more 1)], .own⟩) := by
  obtain ⟨k, rfl⟩ : ∃ k, n = k + 1 := ⟨n - 1, by omega⟩
  have c2 : h.cell (a, 2) = some (.slice (some (f, 0)) (m + 1) (.more 1)) := by rw [Hp.cell_at hA rfl]; rfl
  have g0 : (((m : Int) + 1) == 0) = false := by simp; omega
  have w1 : IntKind.i64.wrap ((m : Int) + 1 - 1) = m := by rw [wrap_id (by omega) (by omega)]; omega
  have b1 : 0 ≤ (m : Int) ∧ (m : Int) < (m : Int) + 1 := by omega
  have b2 : 0 ≤ (m : Int) ∧ (m : Int) ≤ (m : Int) + 1 := by omega
  have e1 : h.cell (f, m) = some (.int .i64 id) := by
    rw [Hp.cell_at hf rfl, List.getElem?_append_left (by simp; omega), List.getElem?_map, hid]; rfl
  have w2 : h.write (a, 2) [.slice (some (f, 0)) m (.more 1)] = some (h.put a ⟨[.int .i64 most, sl, .slice (some (f, 0)) m (.more 1)], .own⟩) := by
    rw [Hp.write_at hA rfl (by simp) (by simp) (by simp [AV.one])]; rfl
  simp (maxSteps := 4000000) only [evalFn_text F2_place, evalT_fn, BK.hid, cond_true, cond_false, guess0, List.tail_nil, List.headD_nil, evalS, evalOps, evalOp, evalO, wantedA, opd, opds, optOpd, optInt, putO, frameOf, T.get_set, T.get_nil, Option.map_some, Option.map_none, Nat.reduceEqDiff, if_true, if_false, reduceIte, reduceCtorEq, Nat.reduceAdd, resA, oneOrTuple, binA, binInt, eqA, lenA, capA, unA, partA, partsA, fillA_nil, sliceA, bounds_none, bounds_lo, bounds_hi, bounds_lohi, evalDreg_false, List.take_succ_cons, List.take_zero, List.take_nil, List.drop_zero, List.drop_succ_cons, List.drop_nil, AV.beq, eq_self, hoist, evalD, O.cls, readsOk, List.tail_cons, List.headD_cons, List.nil_append, List.cons_append, List.getLast?_cons_cons, List.getLast?_singleton, Nat.sub_zero, Int.toNat_natCast, ite_self, Nat.add_zero, Nat.zero_add, Nat.zero_mul, Option.isNone_none, Option.isNone_some, Option.isSome_none, Option.isSome_some, Int.reduceBEq, Int.reduceBNe, Int.reduceLT, Int.reduceLE, Int.reduceGT, Int.reduceGE, Int.reduceEq, decide_true, decide_false, Bool.not_true, Bool.not_false, Int.reduceMul, Int.reduceAdd, Int.reduceSub, Int.reduceToNat, Nat.reduceMul, Nat.reduceSub, Nat.reduceLT, Nat.reduceLeDiff, beq_self_eq_true, bne_self_eq_false, Bool.true_beq, Bool.false_beq, ne_eq, not_true_eq_false, not_false_eq_true, Bool.false_eq_true, Bool.or_self, or_self, AV.cells, AV.one, List.all_cons, List.all_nil, Bool.and_true, Bool.true_and, List.length_cons, List.length_nil, splice, List.set_cons_zero, List.set_cons_succ, Nat.le_refl, Nat.reduceLeDiff, iter_succ, readA, readK, loadA, List.getElem?_cons_zero, List.getElem?_cons_succ, Bool.and_self, and_self, and_true, true_and, s50, c2, g0, w1, b1, b2, e1, w2, Int.natCast_add, Int.natCast_one, Nat.mul_one]

end
end Go.Proofs.Ytchffjnmkpedkaa
