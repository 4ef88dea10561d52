/-
  The arena: a number is given back. Own work of this session.
-/
import Derived.Test.YtchffjnmkpedkaaAt
set_option linter.unusedSectionVars false
set_option linter.unusedSimpArgs false
set_option linter.unusedVariables false
namespace Go.Proofs.Ytchffjnmkpedkaa
set_option linter.unusedSectionVars false
set_option linter.unusedSimpArgs false
set_option linter.unusedVariables false
open Go.Lite Go.RowKit Go.Lite.Arena
set_option maxHeartbeats 4000000
set_option maxRecDepth 10000

/-- The numbers that no node has, in memory. -/
def FreeAt (h : Hp) (fl : AV) (free : List Int) : List Nat → Prop
  | [] => free = [] ∧ fl = .slice none 0 (.known 0)
  | [f] => fl = .slice (some (f, 0)) free.length (.more 1) ∧ ∃ rest, h.get f = some ⟨free.map (AV.int .i64) ++ rest, .grown 1⟩
  | _ => False

theorem Kept.trans {h0 h1 h2 : Hp} {l m : List Nat} (a : Kept h0 h1 l) (b : Kept h1 h2 m) (hm : ∀ c ∈ m, c ∈ l ∨ h0.next ≤ c) : Kept h0 h2 l :=
  ⟨Nat.le_trans a.1 b.1, fun c hc hl => by
    rw [b.2 c (Nat.lt_of_lt_of_le hc a.1) (fun hh => by rcases hm c hh with e | e; exact hl e; omega)]
    exact a.2 c hc hl⟩

theorem all_one_ints (l : List Int) : (l.map (AV.int .i64)).all AV.one = true := by
  induction l with
  | nil => rfl
  | cons a l ih => simp [AV.one]

theorem gone_ok {n : Nat} {h : Hp} {a : Nat} {most : Int} {sl fl : AV} {free : List Int} {fs : List Nat} {id : Int} (hn : free.length + 4 < n) (hA : h.get a = some ⟨[.int .i64 most, sl, fl], .own⟩) (hF : FreeAt h fl free fs)
    (hs : free.Pairwise (· > ·)) (hb : ∀ x ∈ free, 0 < x ∧ x < 1000000) (hid : 0 < id ∧ id < 1000000) (hlen : free.length < 1000000) (ha : a < h.next) (hfs : ∀ f ∈ fs, f < h.next ∧ f ≠ a) :
    ∃ c h', evalFn F2 n 51 [.ptr (some (a, 0)), .int .i64 id] h = some (.tuple [], h') ∧ Spot free id c ∧
      h'.get a = some ⟨[.int .i64 most, sl, .slice (some (h.next + 1, 0)) (free.length + 1) (.more 1)], .own⟩ ∧
      h'.get (h.next + 1) = some ⟨(free.take c ++ [id] ++ free.drop c).map (AV.int .i64), .grown 1⟩ ∧ h'.next = h.next + 2 ∧ Kept h h' (a :: fs) := by
  obtain ⟨k, rfl⟩ : ∃ k, n = k + 1 := ⟨n - 1, by omega⟩
  have c2 : h.cell (a, 2) = some fl := by rw [Hp.cell_at hA rfl]; rfl
  obtain ⟨base, cap, rfl, hcell⟩ : ∃ base cap, fl = .slice base free.length cap ∧ (free ≠ [] → ∃ f, base = some (f, 0) ∧ ∀ j x, free[j]? = some x → h.cell (f, j) = some (.int .i64 x)) := by
    match fs, hF with
    | [], ⟨e1, e2⟩ => subst e1; exact ⟨none, .known 0, e2, fun hh => absurd rfl hh⟩
    | [f], ⟨e1, rest, e2⟩ =>
      refine ⟨_, _, e1, fun _ => ⟨f, rfl, fun j x hx => ?_⟩⟩
      have hj : j < free.length := by
        rcases Nat.lt_or_ge j free.length with hh | hh
        · exact hh
        · rw [List.getElem?_eq_none hh] at hx; cases hx
      rw [Hp.cell_at e2 rfl, List.getElem?_append_left (by simpa using hj), List.getElem?_map, hx]; rfl
  obtain ⟨c, found, e1, hspot⟩ := bs_ok (n := k) (h := h) (cap := cap) (base := base) (by omega) hs hb hid hlen hcell
  have f1 : fillA [.int .i64 0] [(0, 1, .int .i64 id)] = some [.int .i64 id] := rfl
  have c2' : (h.new ⟨[.int .i64 id], .own⟩).get a = some ⟨[.int .i64 most, sl, .slice base free.length cap], .own⟩ := by rw [get_new_ne ha]; exact hA
  have hq : (h.new ⟨[.int .i64 id], .own⟩).cells (h.next, 0) (1 * 1) = some [.int .i64 id] := cells_new rfl
  have hqb : (h.new ⟨[.int .i64 id], .own⟩).get h.next = some ⟨[.int .i64 id], .own⟩ := by rw [Hp.get_new, if_pos rfl]
  have hcn : (c : Int) ≤ (free.length : Int) := by have := hspot.1; omega
  obtain ⟨h2, hins, g1, g2, g3, g4⟩ : ∃ h2, insertA 8 [.slice base free.length cap, .int .i64 (c : Int), .slice (some (h.next, 0)) 1 (.known 1)] (h.new ⟨[.int .i64 id], .own⟩) = some (.slice (some (h.next + 1, 0)) (free.length + 1) (.more 1), h2) ∧
      h2.get a = some ⟨[.int .i64 most, sl, .slice base free.length cap], .own⟩ ∧ h2.get (h.next + 1) = some ⟨(free.take c ++ [id] ++ free.drop c).map (AV.int .i64), .grown 1⟩ ∧ h2.next = h.next + 2 ∧ ∀ x, x < h.next → x ∉ fs → h2.get x = h.get x := by
    match fs, hF with
    | [], ⟨e1, e2⟩ =>
      subst e1; cases e2
      obtain rfl : c = 0 := by have := hspot.1; simpa using this
      refine ⟨(h.new ⟨[.int .i64 id], .own⟩).new ⟨[.int .i64 id], .grown 1⟩, ?_, ?_, ?_, rfl, ?_⟩
      · simp only [insertA, firstA, hq, hqb]
        rw [if_pos (by refine ⟨by omega, by simp, by omega, by simp [maxLenB], by simp⟩), if_pos (by refine ⟨?_, ?_, ?_⟩ <;> first | rfl | trivial), if_pos (by refine ⟨?_, ?_⟩ <;> first | rfl | trivial)]
        rfl
      · rw [Hp.get_new, if_neg (by simp; omega)]; exact c2'
      · rw [Hp.get_new, if_pos (by rfl)]; rfl
      · intro x hx _
        rw [Hp.get_new, if_neg (by simp; omega), get_new_ne hx]
    | [f], ⟨e1, rest, e2⟩ =>
      cases e1
      obtain ⟨hfn, hfa⟩ := hfs f (by simp)
      have e3 : (h.new ⟨[.int .i64 id], .own⟩).get f = some ⟨free.map (AV.int .i64) ++ rest, .grown 1⟩ := by rw [get_new_ne hfn]; exact e2
      have hold : (h.new ⟨[.int .i64 id], .own⟩).cells (f, 0) (free.length * 1) = some (free.map (AV.int .i64)) := by
        rw [Hp.cells_at e3 rfl (by simp), List.drop_zero, List.take_append_of_le_length (by simp), List.take_of_length_le (by simp)]
      refine ⟨((h.new ⟨[.int .i64 id], .own⟩).kill f).new ⟨(free.map (AV.int .i64)).take c ++ [.int .i64 id] ++ (free.map (AV.int .i64)).drop c, .grown 1⟩, ?_, ?_, ?_, rfl, ?_⟩
      · simp only [insertA, firstA, hold, hq, hqb]
        rw [if_pos (by refine ⟨by omega, by omega, by omega, by simp [maxLenB]; omega, by omega⟩), if_pos (by refine ⟨rfl, all_one_ints _, ?_⟩ <;> first | rfl | trivial)]
        simp only [e3]
        rw [if_pos (by refine ⟨?_, ?_, ?_⟩ <;> first | rfl | trivial | (intro hh; omega))]
        simp
      · rw [Hp.get_new, if_neg (by simp; omega), Hp.get_kill, if_neg (fun e => hfa e.symm)]; exact c2'
      · rw [Hp.get_new, if_pos (by rfl)]; simp [List.map_take, List.map_drop]
      · intro x hx hxf
        rw [Hp.get_new, if_neg (by simp; omega), Hp.get_kill, if_neg (by simpa using hxf), get_new_ne hx]
  have e2 : evalFn F2 k 61 [.slice base free.length cap, .int .i64 (c : Int), .slice (some (h.next, 0)) 1 (.known 1)] (h.new ⟨[.int .i64 id], .own⟩) = some (.slice (some (h.next + 1, 0)) (free.length + 1) (.more 1), h2) := by
    rw [evalFn_prim' F2_ins (by omega)]; exact hins
  have w1 : h2.write (a, 2) [.slice (some (h.next + 1, 0)) (free.length + 1) (.more 1)] = some (h2.put a ⟨[.int .i64 most, sl, .slice (some (h.next + 1, 0)) (free.length + 1) (.more 1)], .own⟩) := by
    rw [Hp.write_at g1 rfl (by simp) (by simp) (by simp [AV.one])]; rfl
  refine ⟨c, h2.put a ⟨[.int .i64 most, sl, .slice (some (h.next + 1, 0)) (free.length + 1) (.more 1)], .own⟩, ?_, hspot, ?_, ?_, ?_, ?_⟩
  · simp (maxSteps := 4000000) only [evalFn_text F2_gone, evalT_fn, BK.hid, cond_true, cond_false, guess0, List.tail_nil, List.headD_nil, evalS, evalOps, evalOp, evalO, wantedA, opd, opds, optOpd, optInt, putO, frameOf, T.get_set, T.get_nil, Option.map_some, Option.map_none, Nat.reduceEqDiff, if_true, if_false, reduceIte, reduceCtorEq, Nat.reduceAdd, resA, oneOrTuple, binA, binInt, eqA, lenA, capA, unA, partA, partsA, fillA_nil, sliceA, bounds_none, bounds_lo, bounds_hi, bounds_lohi, evalDreg_false, List.take_succ_cons, List.take_zero, List.take_nil, List.drop_zero, List.drop_succ_cons, List.drop_nil, AV.beq, eq_self, hoist, evalD, O.cls, readsOk, List.tail_cons, List.headD_cons, List.nil_append, List.cons_append, List.getLast?_cons_cons, List.getLast?_singleton, Nat.sub_zero, Int.toNat_natCast, ite_self, Nat.add_zero, Nat.zero_add, Nat.zero_mul, Option.isNone_none, Option.isNone_some, Option.isSome_none, Option.isSome_some, Int.reduceBEq, Int.reduceBNe, Int.reduceLT, Int.reduceLE, Int.reduceGT, Int.reduceGE, Int.reduceEq, decide_true, decide_false, Bool.not_true, Bool.not_false, Int.reduceMul, Int.reduceAdd, Int.reduceSub, Int.reduceToNat, Nat.reduceMul, Nat.reduceSub, Nat.reduceLT, Nat.reduceLeDiff, beq_self_eq_true, bne_self_eq_false, Bool.true_beq, Bool.false_beq, ne_eq, not_true_eq_false, not_false_eq_true, Bool.false_eq_true, Bool.or_self, or_self, AV.cells, AV.one, List.all_cons, List.all_nil, Bool.and_true, Bool.true_and, List.length_cons, List.length_nil, splice, List.set_cons_zero, List.set_cons_succ, Nat.le_refl, Nat.reduceLeDiff, iter_succ, readA, readK, loadA, List.getElem?_cons_zero, List.getElem?_cons_succ, Bool.and_self, and_self, and_true, true_and, s51, c2, e1, f1, e2, w1, List.getElem?_cons_zero, List.getElem?_cons_succ]
  · rw [Hp.get_put, if_pos rfl]
  · rw [Hp.get_put, if_neg (by omega)]; exact g2
  · simpa using g3
  · refine ⟨by simp [g3], fun x hx hxl => ?_⟩
    simp only [List.mem_cons, not_or] at hxl
    rw [Hp.get_put, if_neg hxl.1]; exact g4 x hx hxl.2

end Go.Proofs.Ytchffjnmkpedkaa
