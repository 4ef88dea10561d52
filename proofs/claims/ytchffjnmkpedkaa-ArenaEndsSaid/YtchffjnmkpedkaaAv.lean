/-
  The arena: Drop: what waits to be given back. Own work of this session.
-/
import Derived.Test.YtchffjnmkpedkaaAu
set_option linter.unusedSectionVars false
set_option linter.unusedSimpArgs false
set_option linter.unusedVariables false
namespace Go.Proofs.Ytchffjnmkpedkaa
set_option linter.unusedSectionVars false
set_option linter.unusedSimpArgs false
set_option linter.unusedVariables false
open Go.Lite Go.RowKit Go.Lite.Arena
set_option maxHeartbeats 4000000
set_option maxRecDepth 10000

/-- What waits, in memory. -/
def WaitAt (h : Hp) (w : AV) (l : List Int) (q : Nat) : Prop :=
  ∃ (cap : Cap) (rest : List AV) (kind : BK), w = .slice (some (q, 0)) l.length cap ∧ h.get q = some ⟨l.map (AV.int .i64) ++ rest, kind⟩ ∧
    ((cap = .known (l.length + rest.length) ∧ kind = .own ∧ 0 < l.length + rest.length) ∨ (cap = .more 1 ∧ kind = .grown 1))

theorem wait_len {h : Hp} {w : AV} {l : List Int} {q : Nat} (hw : WaitAt h w l q) : ∃ cap, w = .slice (some (q, 0)) l.length cap := by
  obtain ⟨cap, _, _, e, _⟩ := hw; exact ⟨cap, e⟩

theorem wait_cell {h : Hp} {w : AV} {l : List Int} {q : Nat} (hw : WaitAt h w l q) {i : Nat} {x : Int} (hx : l[i]? = some x) : h.cell (q, i) = some (.int .i64 x) := by
  obtain ⟨cap, rest, kind, _, hg, hk⟩ := hw
  have hi : i < l.length := by
    rcases Nat.lt_or_ge i l.length with hh | hh
    · exact hh
    · rw [List.getElem?_eq_none hh] at hx; cases hx
  rw [Hp.cell_at hg (by rcases hk with ⟨_, rfl, _⟩ | ⟨_, rfl⟩ <;> rfl), List.getElem?_append_left (by simpa using hi), List.getElem?_map, hx]; rfl

theorem pop_ok {h : Hp} {w : AV} {l : List Int} {k : Int} {q : Nat} (hw : WaitAt h w (l ++ [k]) q) : ∃ w', sliceA (.slice 1) w none (some (l.length : Int)) none = some w' ∧ WaitAt h w' l q := by
  obtain ⟨cap, rest, kind, rfl, hg, hk⟩ := hw
  have hg' : h.get q = some ⟨l.map (AV.int .i64) ++ (.int .i64 k :: rest), kind⟩ := by rw [hg]; simp
  rcases hk with ⟨rfl, rfl, hpos⟩ | ⟨rfl, rfl⟩
  · refine ⟨.slice (some (q, 0)) l.length (.known ((l ++ [k]).length + rest.length)), ?_, _, _, _, rfl, hg', .inl ⟨by simp <;> omega, rfl, by simp <;> omega⟩⟩
    simp only [sliceA, bounds_hi]
    rw [if_pos (by simp <;> omega)]
    simp <;> omega
  · refine ⟨.slice (some (q, 0)) l.length (.more 1), ?_, _, _, _, rfl, hg', .inr ⟨rfl, rfl⟩⟩
    simp only [sliceA, bounds_hi]
    rw [if_pos (by simp <;> omega), if_pos (by simp <;> omega)]
    simp

theorem push_ok {h : Hp} {w : AV} {l : List Int} {q : Nat} (hw : WaitAt h w l q) (hq : q < h.next) (hlen : l.length < 1000000000) (x : Int) :
    ∃ w' h' q', appendA (h.new ⟨[.int .i64 x], .own⟩) 1 8 w (.slice (some (h.next, 0)) 1 (.known 1)) = some (w', h') ∧ WaitAt h' w' (l ++ [x]) q' ∧ Kept h h' [q] ∧ (q' = q ∨ h.next ≤ q') ∧ q' < h'.next := by
  obtain ⟨cap, rest, kind, rfl, hg, hk⟩ := hw
  have hkh : kind.hid = false := by rcases hk with ⟨_, rfl, _⟩ | ⟨_, rfl⟩ <;> rfl
  have hg1 : (h.new ⟨[.int .i64 x], .own⟩).get q = some ⟨l.map (AV.int .i64) ++ rest, kind⟩ := by rw [get_new_ne hq]; exact hg
  have hmore : (h.new ⟨[.int .i64 x], .own⟩).cells (h.next, 0) (1 * 1) = some [.int .i64 x] := cells_new rfl
  have hold : (h.new ⟨[.int .i64 x], .own⟩).cells (q, 0) (l.length * 1) = some (l.map (AV.int .i64)) := by
    rw [Hp.cells_at hg1 hkh (by simp), List.drop_zero, List.take_append_of_le_length (by simp), List.take_of_length_le (by simp)]
  have pre : appendA (h.new ⟨[.int .i64 x], .own⟩) 1 8 (.slice (some (q, 0)) l.length cap) (.slice (some (h.next, 0)) 1 (.known 1)) =
      growA (h.new ⟨[.int .i64 x], .own⟩) 1 l.length 1 (some (q, 0)) cap (l.map (AV.int .i64)) [.int .i64 x] := by
    simp only [appendA, lenOfA, firstA, hmore, hold]
    rw [if_neg (by omega), if_pos (by simp [maxLenB]; omega), if_pos (by refine ⟨?_, ?_, ?_⟩ <;> first | rfl | trivial | simp)]
  rw [pre]
  rcases hk with ⟨rfl, rfl, hpos⟩ | ⟨rfl, rfl⟩
  · cases rest with
    | nil =>
      refine ⟨_, _, h.next + 1, by simp only [growA]; rw [if_neg (by simp)], ⟨.more 1, [], .grown 1, by simp, ?_, .inr ⟨rfl, rfl⟩⟩, ⟨by simp <;> omega, fun c hc _ => ?_⟩, .inr (by omega), by simp⟩
      · rw [Hp.get_new, if_pos (by rfl)]; simp
      · rw [Hp.get_new, if_neg (by simp <;> omega), get_new_ne hc]
    | cons r rest =>
      have hw : (h.new ⟨[.int .i64 x], .own⟩).write (q, 0 + l.length * 1) [.int .i64 x] = some ((h.new ⟨[.int .i64 x], .own⟩).put q ⟨l.map (AV.int .i64) ++ (.int .i64 x :: rest), .own⟩) := by
        rw [Hp.write_at hg1 rfl (by simp) (by simp) (by simp [AV.one])]
        congr 3
        simp only [splice, Nat.zero_add, Nat.mul_one]
        rw [List.set_append_right _ _ (by simp)]
        simp
      refine ⟨.slice (some (q, 0)) (l.length + 1) (.known (l.length + (rest.length + 1))), (h.new ⟨[.int .i64 x], .own⟩).put q ⟨l.map (AV.int .i64) ++ (.int .i64 x :: rest), .own⟩, q, ?_, ⟨.known ((l ++ [x]).length + rest.length), rest, .own, ?_, ?_, .inl ⟨rfl, rfl, by simp <;> omega⟩⟩, ⟨by simp <;> omega, fun c hc hcl => ?_⟩, .inl rfl, ?_⟩
      · simp only [growA]
        rw [if_pos (by simp <;> omega)]
        simp only [hw]
        rfl
      · simp <;> omega
      · rw [Hp.get_put, if_pos rfl]; simp
      · rw [Hp.get_put, if_neg (by simpa using hcl), get_new_ne hc]
      · simp <;> omega
  · refine ⟨_, _, h.next + 1, by simp only [growA, hg1]; rw [if_pos (by refine ⟨?_, ?_⟩ <;> first | rfl | trivial)], ⟨.more 1, [], .grown 1, by simp, ?_, .inr ⟨rfl, rfl⟩⟩, ⟨by simp <;> omega, fun c hc hcl => ?_⟩, .inr (by omega), by simp⟩
    · rw [Hp.get_new, if_pos (by rfl)]; simp
    · rw [Hp.get_new, if_neg (by simp <;> omega), Hp.get_kill, if_neg (by simpa using hcl), get_new_ne hc]

/-- Between two rounds of the loop over a node's parts. -/
def PushI (kids : List Int) (l : List Int) (h0 : Hp) (q0 : Nat) (v0 v6 : Option AV) (m : Nat) (fr : Fr) (h : Hp) : Prop :=
  ∃ (i : Nat) (w : AV) (q : Nat), m = 8 - i ∧ i ≤ 8 ∧ fr.get 53 = some (.agg (kids.map (AV.int .i64))) ∧ fr.get 54 = some (.int .i64 i) ∧ fr.get 5 = some w ∧ fr.get 0 = v0 ∧ fr.get 6 = v6 ∧
    WaitAt h w (l ++ (kids.take i).filter (fun x => x != 0)) q ∧ Kept h0 h [q0] ∧ (q = q0 ∨ h0.next ≤ q) ∧ q < h.next

theorem push_step {call : Lite.Callee} {k : Nat} {kids l : List Int} {h0 : Hp} {q0 : Nat} {v0 v6 : Option AV} (h8 : kids.length = 8) (hlen : l.length + 8 < 1000000000) (m : Nat) (fr : Fr) (h : Hp) (I : PushI kids l h0 q0 v0 v6 m fr h) :
    (∃ m' fr' h', evalS call k s18_l0 fr h = some (.normal, fr', h') ∧ m' < m ∧ PushI kids l h0 q0 v0 v6 m' fr' h') ∨
    (∃ x fr' h', evalS call k s18_l0 fr h = some (x, fr', h') ∧ x ≠ .normal ∧ x = .exit 2 ∧ PushI kids l h0 q0 v0 v6 0 fr' h') := by
  obtain ⟨i, w, q, rfl, hi, g53, g54, g5, g0, g6, hw, hk, hq, hqn⟩ := I
  by_cases hlt : i < 8
  · left
    have g55 : decide ((i : Int) < 8) = true := by simp; omega
    have b1 : 0 ≤ (i : Int) ∧ (i : Int) < ((8 : Nat) : Int) := by omega
    have hx := List.getElem?_eq_getElem (l := kids) (show i < kids.length by omega)
    generalize hxv : kids[i]'(by omega) = x at hx
    have p1 : (kids.map (AV.int .i64))[i]? = some (.int .i64 x) := by rw [List.getElem?_map, hx]; rfl
    have w1 : IntKind.i64.wrap ((i : Int) + 1) = ((i + 1 : Nat) : Int) := by rw [wrap_id (by omega) (by omega)]; simp
    have htake : kids.take (i + 1) = kids.take i ++ [x] := by rw [List.take_add_one, hx]; rfl
    by_cases h0x : x = 0
    · have n0 : (x != 0) = false := by simp [h0x]
      refine ⟨8 - (i + 1), _, h, (by simp (maxSteps := 4000000) only [evalT_fn, BK.hid, cond_true, cond_false, guess0, List.tail_nil, List.headD_nil, evalS, evalOps, evalOp, evalO, wantedA, opd, opds, optOpd, optInt, putO, frameOf, T.get_set, T.get_nil, Option.map_some, Option.map_none, Nat.reduceEqDiff, if_true, if_false, reduceIte, reduceCtorEq, Nat.reduceAdd, resA, oneOrTuple, binA, binInt, eqA, lenA, capA, unA, partA, partsA, fillA_nil, sliceA, bounds_none, bounds_lo, bounds_hi, bounds_lohi, evalDreg_false, List.take_succ_cons, List.take_zero, List.take_nil, List.drop_zero, List.drop_succ_cons, List.drop_nil, AV.beq, eq_self, hoist, evalD, O.cls, readsOk, List.tail_cons, List.headD_cons, List.nil_append, List.cons_append, List.getLast?_cons_cons, List.getLast?_singleton, Nat.sub_zero, Int.toNat_natCast, ite_self, Nat.add_zero, Nat.zero_add, Nat.zero_mul, Option.isNone_none, Option.isNone_some, Option.isSome_none, Option.isSome_some, Int.reduceBEq, Int.reduceBNe, Int.reduceLT, Int.reduceLE, Int.reduceGT, Int.reduceGE, Int.reduceEq, decide_true, decide_false, Bool.not_true, Bool.not_false, Int.reduceMul, Int.reduceAdd, Int.reduceSub, Int.reduceToNat, Nat.reduceMul, Nat.reduceSub, Nat.reduceLT, Nat.reduceLeDiff, beq_self_eq_true, bne_self_eq_false, Bool.true_beq, Bool.false_beq, ne_eq, not_true_eq_false, not_false_eq_true, Bool.false_eq_true, Bool.or_self, or_self, AV.cells, AV.one, List.all_cons, List.all_nil, Bool.and_true, Bool.true_and, List.length_cons, List.length_nil, splice, List.set_cons_zero, List.set_cons_succ, Nat.le_refl, Nat.reduceLeDiff, iter_succ, readA, readK, loadA, List.getElem?_cons_zero, List.getElem?_cons_succ, Bool.and_self, and_self, and_true, true_and, s18_l0, g53, g54, g55, b1, p1, n0, w1, Nat.mul_one]; rfl), by omega, ?_⟩
      refine ⟨i + 1, w, q, rfl, by omega, by simp [T.get_set, g53], by simp [T.get_set], by simp [T.get_set, g5], by simp [T.get_set, g0], by simp [T.get_set, g6], ?_, hk, hq, hqn⟩
      rw [htake, List.filter_append]
      simpa [n0] using hw
    · have n0 : (x != 0) = true := by simp [h0x]
      have f1 : fillA [.int .i64 0] [(0, 1, .int .i64 x)] = some [.int .i64 x] := rfl
      obtain ⟨w', h', q', e1, hw', hk', hq', hqn'⟩ := push_ok hw hqn (by
        have := List.length_filter_le (fun x => x != 0) (kids.take i)
        simp only [List.length_append]
        have : (kids.take i).length ≤ 8 := by rw [List.length_take]; omega
        omega) x
      refine ⟨8 - (i + 1), _, h', (by simp (maxSteps := 4000000) only [evalT_fn, BK.hid, cond_true, cond_false, guess0, List.tail_nil, List.headD_nil, evalS, evalOps, evalOp, evalO, wantedA, opd, opds, optOpd, optInt, putO, frameOf, T.get_set, T.get_nil, Option.map_some, Option.map_none, Nat.reduceEqDiff, if_true, if_false, reduceIte, reduceCtorEq, Nat.reduceAdd, resA, oneOrTuple, binA, binInt, eqA, lenA, capA, unA, partA, partsA, fillA_nil, sliceA, bounds_none, bounds_lo, bounds_hi, bounds_lohi, evalDreg_false, List.take_succ_cons, List.take_zero, List.take_nil, List.drop_zero, List.drop_succ_cons, List.drop_nil, AV.beq, eq_self, hoist, evalD, O.cls, readsOk, List.tail_cons, List.headD_cons, List.nil_append, List.cons_append, List.getLast?_cons_cons, List.getLast?_singleton, Nat.sub_zero, Int.toNat_natCast, ite_self, Nat.add_zero, Nat.zero_add, Nat.zero_mul, Option.isNone_none, Option.isNone_some, Option.isSome_none, Option.isSome_some, Int.reduceBEq, Int.reduceBNe, Int.reduceLT, Int.reduceLE, Int.reduceGT, Int.reduceGE, Int.reduceEq, decide_true, decide_false, Bool.not_true, Bool.not_false, Int.reduceMul, Int.reduceAdd, Int.reduceSub, Int.reduceToNat, Nat.reduceMul, Nat.reduceSub, Nat.reduceLT, Nat.reduceLeDiff, beq_self_eq_true, bne_self_eq_false, Bool.true_beq, Bool.false_beq, ne_eq, not_true_eq_false, not_false_eq_true, Bool.false_eq_true, Bool.or_self, or_self, AV.cells, AV.one, List.all_cons, List.all_nil, Bool.and_true, Bool.true_and, List.length_cons, List.length_nil, splice, List.set_cons_zero, List.set_cons_succ, Nat.le_refl, Nat.reduceLeDiff, iter_succ, readA, readK, loadA, List.getElem?_cons_zero, List.getElem?_cons_succ, Bool.and_self, and_self, and_true, true_and, s18_l0, g53, g54, g5, g55, b1, p1, n0, f1, e1, w1, Nat.mul_one]; rfl), by omega, ?_⟩
      refine ⟨i + 1, w', q', rfl, by omega, by simp [T.get_set, g53], by simp [T.get_set], by simp [T.get_set], by simp [T.get_set, g0], by simp [T.get_set, g6], ?_, ?_, ?_, hqn'⟩
      · rw [htake, List.filter_append, ← List.append_assoc]
        simpa [n0] using hw'
      · exact hk.trans hk' (fun c hc => by
          rw [List.mem_singleton] at hc ⊢
          subst hc
          exact hq)
      · have := hk.1
        rcases hq' with e | e
        · rw [e]; exact hq
        · exact .inr (by omega)
  · right
    have g55 : decide ((i : Int) < 8) = false := by simp; omega
    obtain rfl : i = 8 := by omega
    refine ⟨_, _, h, (by simp (maxSteps := 4000000) only [evalT_fn, BK.hid, cond_true, cond_false, guess0, List.tail_nil, List.headD_nil, evalS, evalOps, evalOp, evalO, wantedA, opd, opds, optOpd, optInt, putO, frameOf, T.get_set, T.get_nil, Option.map_some, Option.map_none, Nat.reduceEqDiff, if_true, if_false, reduceIte, reduceCtorEq, Nat.reduceAdd, resA, oneOrTuple, binA, binInt, eqA, lenA, capA, unA, partA, partsA, fillA_nil, sliceA, bounds_none, bounds_lo, bounds_hi, bounds_lohi, evalDreg_false, List.take_succ_cons, List.take_zero, List.take_nil, List.drop_zero, List.drop_succ_cons, List.drop_nil, AV.beq, eq_self, hoist, evalD, O.cls, readsOk, List.tail_cons, List.headD_cons, List.nil_append, List.cons_append, List.getLast?_cons_cons, List.getLast?_singleton, Nat.sub_zero, Int.toNat_natCast, ite_self, Nat.add_zero, Nat.zero_add, Nat.zero_mul, Option.isNone_none, Option.isNone_some, Option.isSome_none, Option.isSome_some, Int.reduceBEq, Int.reduceBNe, Int.reduceLT, Int.reduceLE, Int.reduceGT, Int.reduceGE, Int.reduceEq, decide_true, decide_false, Bool.not_true, Bool.not_false, Int.reduceMul, Int.reduceAdd, Int.reduceSub, Int.reduceToNat, Nat.reduceMul, Nat.reduceSub, Nat.reduceLT, Nat.reduceLeDiff, beq_self_eq_true, bne_self_eq_false, Bool.true_beq, Bool.false_beq, ne_eq, not_true_eq_false, not_false_eq_true, Bool.false_eq_true, Bool.or_self, or_self, AV.cells, AV.one, List.all_cons, List.all_nil, Bool.and_true, Bool.true_and, List.length_cons, List.length_nil, splice, List.set_cons_zero, List.set_cons_succ, Nat.le_refl, Nat.reduceLeDiff, iter_succ, readA, readK, loadA, List.getElem?_cons_zero, List.getElem?_cons_succ, Bool.and_self, and_self, and_true, true_and, s18_l0, g54, g55]; rfl), by simp, rfl, ?_⟩
    exact ⟨8, w, q, rfl, by omega, by simp [T.get_set, g53], by simp [T.get_set, g54], by simp [T.get_set, g5], by simp [T.get_set, g0], by simp [T.get_set, g6], hw, hk, hq, hqn⟩

end Go.Proofs.Ytchffjnmkpedkaa
