/-
  The arena: a number among those that no node has. Own work of this session.
-/
import Derived.Test.YtchffjnmkpedkaaAs
import Derived.Test.YtchffjnmkpedkaaPc
set_option linter.unusedSectionVars false
set_option linter.unusedSimpArgs false
set_option linter.unusedVariables false
namespace Go.Proofs.Ytchffjnmkpedkaa
set_option linter.unusedSectionVars false
set_option linter.unusedSimpArgs false
set_option linter.unusedVariables false
open Go.Lite Go.RowKit Go.Lite.Arena
set_option maxHeartbeats 4000000
set_option maxRecDepth 10000

theorem F2_cmp : F2 60 = some (.text s60) := rfl
theorem F2_bs : F2 59 = some (.text s59) := rfl
theorem F2_gone : F2 51 = some (.text s51) := rfl
theorem F2_ins : F2 61 = some (.prim (insertA 8)) := rfl

theorem cmp_ok {n : Nat} (hn : 0 < n) (h : Hp) (x y : Int) (hx : -1000000 < x ∧ x < 1000000) (hy : -1000000 < y ∧ y < 1000000) : evalFn F2 n 60 [.int .i64 x, .int .i64 y] h = some (.int .i64 (y - x), h) := by
  obtain ⟨k, rfl⟩ : ∃ k, n = k + 1 := ⟨n - 1, by omega⟩
  have w1 : IntKind.i64.wrap (y - x) = y - x := by
    simp only [IntKind.wrap, IntKind.signed, IntKind.bits]
    simp
    omega
  simp (maxSteps := 4000000) only [evalFn_text F2_cmp, evalT_fn, BK.hid, cond_true, cond_false, guess0, List.tail_nil, List.headD_nil, evalS, evalOps, evalOp, evalO, wantedA, opd, opds, optOpd, optInt, putO, frameOf, T.get_set, T.get_nil, Option.map_some, Option.map_none, Nat.reduceEqDiff, if_true, if_false, reduceIte, reduceCtorEq, Nat.reduceAdd, resA, oneOrTuple, binA, binInt, eqA, lenA, capA, unA, partA, partsA, fillA_nil, sliceA, bounds_none, bounds_lo, bounds_hi, bounds_lohi, evalDreg_false, List.take_succ_cons, List.take_zero, List.take_nil, List.drop_zero, List.drop_succ_cons, List.drop_nil, AV.beq, eq_self, hoist, evalD, O.cls, readsOk, List.tail_cons, List.headD_cons, List.nil_append, List.cons_append, List.getLast?_cons_cons, List.getLast?_singleton, Nat.sub_zero, Int.toNat_natCast, ite_self, Nat.add_zero, Nat.zero_add, Nat.zero_mul, Option.isNone_none, Option.isNone_some, Option.isSome_none, Option.isSome_some, Int.reduceBEq, Int.reduceBNe, Int.reduceLT, Int.reduceLE, Int.reduceGT, Int.reduceGE, Int.reduceEq, decide_true, decide_false, Bool.not_true, Bool.not_false, Int.reduceMul, Int.reduceAdd, Int.reduceSub, Int.reduceToNat, Nat.reduceMul, Nat.reduceSub, Nat.reduceLT, Nat.reduceLeDiff, beq_self_eq_true, bne_self_eq_false, Bool.true_beq, Bool.false_beq, ne_eq, not_true_eq_false, not_false_eq_true, Bool.false_eq_true, Bool.or_self, or_self, AV.cells, AV.one, List.all_cons, List.all_nil, Bool.and_true, Bool.true_and, List.length_cons, List.length_nil, splice, List.set_cons_zero, List.set_cons_succ, Nat.le_refl, Nat.reduceLeDiff, iter_succ, readA, readK, loadA, List.getElem?_cons_zero, List.getElem?_cons_succ, Bool.and_self, and_self, and_true, true_and, s60, w1]

structure BsI (free : List Int) (id : Int) (base : Option (Nat × Nat)) (cap : Cap) (m : Nat) (fr : Fr) : Prop where
  gs : fr.get 0 = some (.slice base free.length cap)
  gi : fr.get 1 = some (.int .i64 id)
  gf : fr.get 2 = some (.func 60 [] [])
  gn : fr.get 8 = some (.int .i64 free.length)
  st : ∃ lo hi : Nat, fr.get 9 = some (.int .i64 lo) ∧ fr.get 10 = some (.int .i64 hi) ∧ lo ≤ hi ∧ hi ≤ free.length ∧ m = hi - lo ∧ (∀ j x, j < lo → free[j]? = some x → id < x) ∧ ∀ j x, hi ≤ j → free[j]? = some x → x ≤ id

theorem desc {free : List Int} (hs : free.Pairwise (· > ·)) {i j : Nat} {x y : Int} (hij : i < j) (hx : free[i]? = some x) (hy : free[j]? = some y) : x > y := by
  have hi : i < free.length := by
    rcases Nat.lt_or_ge i free.length with hh | hh
    · exact hh
    · rw [List.getElem?_eq_none hh] at hx; cases hx
  have hj : j < free.length := by
    rcases Nat.lt_or_ge j free.length with hh | hh
    · exact hh
    · rw [List.getElem?_eq_none hh] at hy; cases hy
  rw [List.getElem?_eq_getElem hi] at hx; rw [List.getElem?_eq_getElem hj] at hy
  cases hx; cases hy
  exact List.pairwise_iff_getElem.1 hs i j hi hj hij

theorem bs_step {k : Nat} (hk : 0 < k) {h : Hp} {free : List Int} {id : Int} {base : Option (Nat × Nat)} {cap : Cap} (hs : free.Pairwise (· > ·)) (hb : ∀ x ∈ free, 0 < x ∧ x < 1000000) (hid : 0 < id ∧ id < 1000000) (hlen : free.length < 1000000)
    (hcell : free ≠ [] → ∃ f, base = some (f, 0) ∧ ∀ j x, free[j]? = some x → h.cell (f, j) = some (.int .i64 x)) (m : Nat) (fr : Fr) (I : BsI free id base cap m fr) :
    (∃ m' fr', evalS (evalT F2 k) k s59_l0 fr h = some (.normal, fr', h) ∧ m' < m ∧ BsI free id base cap m' fr') ∨
    (∃ fr', evalS (evalT F2 k) k s59_l0 fr h = some (.exit 0, fr', h) ∧ m = 0 ∧ BsI free id base cap 0 fr') := by
  obtain ⟨g0, g1, g2, g8, lo, hi, g9, g10, hlh, hhi, rfl, hlo, hup⟩ := I
  by_cases hlt : lo < hi
  · left
    obtain ⟨mid, hmid⟩ : ∃ mid, mid = (lo + hi) / 2 := ⟨_, rfl⟩
    have hm1 : lo ≤ mid := by omega
    have hm2 : mid < hi := by omega
    have hml : mid < free.length := by omega
    obtain ⟨f, rfl, hc⟩ := hcell (by rintro rfl; simp at hml)
    have hx := List.getElem?_eq_getElem hml
    generalize hxv : free[mid] = x at hx
    have hxb := hb x (by rw [← hxv]; exact List.getElem_mem hml)
    have c1 := hc mid x hx
    have g17 : decide ((lo : Int) < (hi : Int)) = true := by simp; omega
    have w1 : IntKind.i64.wrap ((lo : Int) + (hi : Int)) = (lo : Int) + (hi : Int) := wrap_id (by omega) (by omega)
    have w2 : IntKind.u64.wrap ((lo : Int) + (hi : Int)) = (lo : Int) + (hi : Int) := by
      simp only [IntKind.wrap, IntKind.signed, IntKind.bits]
      simp
      omega
    have sh : shiftA .shr .u64 ((lo : Int) + (hi : Int)) 1 = some (.int .u64 (mid : Int)) := by
      simp only [shiftA]
      have : ((lo : Int) + (hi : Int)).fdiv (2 ^ (min (Int.toNat 1) IntKind.u64.bits)) = (mid : Int) := by
        simp only [IntKind.bits]
        rw [show (min (Int.toNat 1) 64) = 1 from rfl, Int.fdiv_eq_ediv_of_nonneg _ (by omega)]
        omega
      rw [if_neg (by omega), this]
    have w3 : IntKind.i64.wrap (mid : Int) = mid := wrap_id (by omega) (by omega)
    have b1 : 0 ≤ (mid : Int) ∧ (mid : Int) < (free.length : Int) := by omega
    have e1 := cmp_ok (n := k) hk h x id (by omega) (by omega)
    have w4 : IntKind.i64.wrap ((mid : Int) + 1) = ((mid + 1 : Nat) : Int) := by rw [wrap_id (by omega) (by omega)]; simp
    by_cases hgt : id < x
    · have g31 : decide (id - x < 0) = true := by simp; omega
      refine ⟨hi - (mid + 1), _, (by simp (maxSteps := 4000000) only [evalT_fn, BK.hid, cond_true, cond_false, guess0, List.tail_nil, List.headD_nil, evalS, evalOps, evalOp, evalO, wantedA, opd, opds, optOpd, optInt, putO, frameOf, T.get_set, T.get_nil, Option.map_some, Option.map_none, Nat.reduceEqDiff, if_true, if_false, reduceIte, reduceCtorEq, Nat.reduceAdd, resA, oneOrTuple, binA, binInt, eqA, lenA, capA, unA, partA, partsA, fillA_nil, sliceA, bounds_none, bounds_lo, bounds_hi, bounds_lohi, evalDreg_false, List.take_succ_cons, List.take_zero, List.take_nil, List.drop_zero, List.drop_succ_cons, List.drop_nil, AV.beq, eq_self, hoist, evalD, O.cls, readsOk, List.tail_cons, List.headD_cons, List.nil_append, List.cons_append, List.getLast?_cons_cons, List.getLast?_singleton, Nat.sub_zero, Int.toNat_natCast, ite_self, Nat.add_zero, Nat.zero_add, Nat.zero_mul, Option.isNone_none, Option.isNone_some, Option.isSome_none, Option.isSome_some, Int.reduceBEq, Int.reduceBNe, Int.reduceLT, Int.reduceLE, Int.reduceGT, Int.reduceGE, Int.reduceEq, decide_true, decide_false, Bool.not_true, Bool.not_false, Int.reduceMul, Int.reduceAdd, Int.reduceSub, Int.reduceToNat, Nat.reduceMul, Nat.reduceSub, Nat.reduceLT, Nat.reduceLeDiff, beq_self_eq_true, bne_self_eq_false, Bool.true_beq, Bool.false_beq, ne_eq, not_true_eq_false, not_false_eq_true, Bool.false_eq_true, Bool.or_self, or_self, AV.cells, AV.one, List.all_cons, List.all_nil, Bool.and_true, Bool.true_and, List.length_cons, List.length_nil, splice, List.set_cons_zero, List.set_cons_succ, Nat.le_refl, Nat.reduceLeDiff, iter_succ, readA, readK, loadA, List.getElem?_cons_zero, List.getElem?_cons_succ, Bool.and_self, and_self, and_true, true_and, s59_l0, g0, g1, g2, g9, g10, g17, w1, w2, sh, w3, b1, c1, e1, g31, w4, Nat.mul_one, List.append_nil]; rfl), by omega, ?_⟩
      refine ⟨by simp [T.get_set, g0], by simp [T.get_set, g1], by simp [T.get_set, g2], by simp [T.get_set, g8], mid + 1, hi, by simp [T.get_set], by simp [T.get_set, g10], by omega, by omega, rfl, ?_, hup⟩
      intro j y hj hy
      rcases Nat.lt_or_ge j mid with hh | hh
      · have := desc hs hh hy hx; omega
      · have : j = mid := by omega
        subst this; rw [hx] at hy; cases hy; exact hgt
    · have g31 : decide (id - x < 0) = false := by simp; omega
      refine ⟨mid - lo, _, (by simp (maxSteps := 4000000) only [evalT_fn, BK.hid, cond_true, cond_false, guess0, List.tail_nil, List.headD_nil, evalS, evalOps, evalOp, evalO, wantedA, opd, opds, optOpd, optInt, putO, frameOf, T.get_set, T.get_nil, Option.map_some, Option.map_none, Nat.reduceEqDiff, if_true, if_false, reduceIte, reduceCtorEq, Nat.reduceAdd, resA, oneOrTuple, binA, binInt, eqA, lenA, capA, unA, partA, partsA, fillA_nil, sliceA, bounds_none, bounds_lo, bounds_hi, bounds_lohi, evalDreg_false, List.take_succ_cons, List.take_zero, List.take_nil, List.drop_zero, List.drop_succ_cons, List.drop_nil, AV.beq, eq_self, hoist, evalD, O.cls, readsOk, List.tail_cons, List.headD_cons, List.nil_append, List.cons_append, List.getLast?_cons_cons, List.getLast?_singleton, Nat.sub_zero, Int.toNat_natCast, ite_self, Nat.add_zero, Nat.zero_add, Nat.zero_mul, Option.isNone_none, Option.isNone_some, Option.isSome_none, Option.isSome_some, Int.reduceBEq, Int.reduceBNe, Int.reduceLT, Int.reduceLE, Int.reduceGT, Int.reduceGE, Int.reduceEq, decide_true, decide_false, Bool.not_true, Bool.not_false, Int.reduceMul, Int.reduceAdd, Int.reduceSub, Int.reduceToNat, Nat.reduceMul, Nat.reduceSub, Nat.reduceLT, Nat.reduceLeDiff, beq_self_eq_true, bne_self_eq_false, Bool.true_beq, Bool.false_beq, ne_eq, not_true_eq_false, not_false_eq_true, Bool.false_eq_true, Bool.or_self, or_self, AV.cells, AV.one, List.all_cons, List.all_nil, Bool.and_true, Bool.true_and, List.length_cons, List.length_nil, splice, List.set_cons_zero, List.set_cons_succ, Nat.le_refl, Nat.reduceLeDiff, iter_succ, readA, readK, loadA, List.getElem?_cons_zero, List.getElem?_cons_succ, Bool.and_self, and_self, and_true, true_and, s59_l0, g0, g1, g2, g9, g10, g17, w1, w2, sh, w3, b1, c1, e1, g31, w4, Nat.mul_one, List.append_nil]; rfl), by omega, ?_⟩
      refine ⟨by simp [T.get_set, g0], by simp [T.get_set, g1], by simp [T.get_set, g2], by simp [T.get_set, g8], lo, mid, by simp [T.get_set, g9], by simp [T.get_set], by omega, by omega, rfl, hlo, ?_⟩
      intro j y hj hy
      rcases Nat.lt_or_ge mid j with hh | hh
      · have := desc hs hh hx hy; omega
      · have : j = mid := by omega
        subst this; rw [hx] at hy; cases hy; omega
  · right
    have g17 : decide ((lo : Int) < (hi : Int)) = false := by simp; omega
    refine ⟨_, (by simp (maxSteps := 4000000) only [evalT_fn, BK.hid, cond_true, cond_false, guess0, List.tail_nil, List.headD_nil, evalS, evalOps, evalOp, evalO, wantedA, opd, opds, optOpd, optInt, putO, frameOf, T.get_set, T.get_nil, Option.map_some, Option.map_none, Nat.reduceEqDiff, if_true, if_false, reduceIte, reduceCtorEq, Nat.reduceAdd, resA, oneOrTuple, binA, binInt, eqA, lenA, capA, unA, partA, partsA, fillA_nil, sliceA, bounds_none, bounds_lo, bounds_hi, bounds_lohi, evalDreg_false, List.take_succ_cons, List.take_zero, List.take_nil, List.drop_zero, List.drop_succ_cons, List.drop_nil, AV.beq, eq_self, hoist, evalD, O.cls, readsOk, List.tail_cons, List.headD_cons, List.nil_append, List.cons_append, List.getLast?_cons_cons, List.getLast?_singleton, Nat.sub_zero, Int.toNat_natCast, ite_self, Nat.add_zero, Nat.zero_add, Nat.zero_mul, Option.isNone_none, Option.isNone_some, Option.isSome_none, Option.isSome_some, Int.reduceBEq, Int.reduceBNe, Int.reduceLT, Int.reduceLE, Int.reduceGT, Int.reduceGE, Int.reduceEq, decide_true, decide_false, Bool.not_true, Bool.not_false, Int.reduceMul, Int.reduceAdd, Int.reduceSub, Int.reduceToNat, Nat.reduceMul, Nat.reduceSub, Nat.reduceLT, Nat.reduceLeDiff, beq_self_eq_true, bne_self_eq_false, Bool.true_beq, Bool.false_beq, ne_eq, not_true_eq_false, not_false_eq_true, Bool.false_eq_true, Bool.or_self, or_self, AV.cells, AV.one, List.all_cons, List.all_nil, Bool.and_true, Bool.true_and, List.length_cons, List.length_nil, splice, List.set_cons_zero, List.set_cons_succ, Nat.le_refl, Nat.reduceLeDiff, iter_succ, readA, readK, loadA, List.getElem?_cons_zero, List.getElem?_cons_succ, Bool.and_self, and_self, and_true, true_and, s59_l0, g0, g1, g2, g9, g10, g17]; rfl), by omega, ?_⟩
    exact ⟨by simp [T.get_set, g0], by simp [T.get_set, g1], by simp [T.get_set, g2], by simp [T.get_set, g8], lo, hi, by simp [T.get_set, g9], by simp [T.get_set, g10], hlh, hhi, by omega, hlo, hup⟩

/-- The search. -/
theorem bs_ok {n : Nat} {h : Hp} {free : List Int} {id : Int} {base : Option (Nat × Nat)} {cap : Cap} (hn : free.length + 2 < n) (hs : free.Pairwise (· > ·)) (hb : ∀ x ∈ free, 0 < x ∧ x < 1000000) (hid : 0 < id ∧ id < 1000000) (hlen : free.length < 1000000)
    (hcell : free ≠ [] → ∃ f, base = some (f, 0) ∧ ∀ j x, free[j]? = some x → h.cell (f, j) = some (.int .i64 x)) :
    ∃ c found, evalFn F2 n 59 [.slice base free.length cap, .int .i64 id, .func 60 [] []] h = some (.tuple [.int .i64 (c : Nat), .bool found], h) ∧ Spot free id c := by
  obtain ⟨k, rfl⟩ : ∃ k, n = k + 1 := ⟨n - 1, by omega⟩
  let fr0 : Fr := (((((((frameOf 0 [.slice base free.length cap, .int .i64 id, .func 60 [] []]).set 6 (some (.int .i64 0))).set 7 (some (.bool false))).set 12 (some (.slice base free.length cap))).set 13 (some (.int .i64 free.length))).set 8 (some (.int .i64 free.length))).set 14 (some (.int .i64 free.length))).set 9 (some (.int .i64 0)) |>.set 10 (some (.int .i64 free.length))
  have I0 : BsI free id base cap free.length fr0 := by
    refine ⟨by simp [fr0, frameOf, T.get_set], by simp [fr0, frameOf, T.get_set], by simp [fr0, frameOf, T.get_set], by simp [fr0, frameOf, T.get_set], 0, free.length, by simp [fr0, T.get_set], by simp [fr0, T.get_set], by omega, by omega, rfl, fun j x hj _ => by omega, fun j x hj hx => ?_⟩
    rw [List.getElem?_eq_none hj] at hx; cases hx
  obtain ⟨x, fr1, h1, hit, hx, hq⟩ := iter_inv (body := evalS (evalT F2 k) k s59_l0) (fun m fr h' => h' = h ∧ BsI free id base cap m fr) (fun x fr h' => x = .exit 0 ∧ h' = h ∧ BsI free id base cap 0 fr) (by
    rintro m fr h' ⟨rfl, I⟩
    rcases bs_step (k := k) (by omega) hs hb hid hlen hcell m fr I with ⟨m', fr', e, hlt, I'⟩ | ⟨fr', e, _, I'⟩
    · exact .inl ⟨m', fr', h', e, hlt, rfl, I'⟩
    · exact .inr ⟨_, fr', h', e, by simp, rfl, rfl, I'⟩) k free.length fr0 h (by omega) ⟨rfl, I0⟩
  obtain ⟨rfl, rfl, g0, g1, g2, g8, lo, hi, g9, g10, hlh, hhi, hm, hlo, hup⟩ := hq
  obtain rfl : lo = hi := by omega
  have hit' : iter (evalS (evalT F2 k) k s59_l0) k fr0 h1 = some (.exit 0, fr1, h1) := hit
  by_cases hlt : lo < free.length
  · obtain ⟨f, rfl, hc⟩ := hcell (by rintro rfl; simp at hlt)
    have hx := List.getElem?_eq_getElem hlt
    generalize hxv : free[lo] = x at hx
    have hxb := hb x (by rw [← hxv]; exact List.getElem_mem hlt)
    have c1 := hc lo x hx
    have g38 : decide ((lo : Int) < (free.length : Int)) = true := by simp; omega
    have b1 : 0 ≤ (lo : Int) ∧ (lo : Int) < (free.length : Int) := by omega
    have e1 := cmp_ok (n := k) (by omega) h1 x id (by omega) (by omega)
    refine ⟨lo, id - x == 0, ?_, hhi, hlo, hup⟩
    simp (maxSteps := 4000000) only [evalFn_text F2_bs, evalT_fn, BK.hid, cond_true, cond_false, guess0, List.tail_nil, List.headD_nil, evalS, evalOps, evalOp, evalO, wantedA, opd, opds, optOpd, optInt, putO, frameOf, T.get_set, T.get_nil, Option.map_some, Option.map_none, Nat.reduceEqDiff, if_true, if_false, reduceIte, reduceCtorEq, Nat.reduceAdd, resA, oneOrTuple, binA, binInt, eqA, lenA, capA, unA, partA, partsA, fillA_nil, sliceA, bounds_none, bounds_lo, bounds_hi, bounds_lohi, evalDreg_false, List.take_succ_cons, List.take_zero, List.take_nil, List.drop_zero, List.drop_succ_cons, List.drop_nil, AV.beq, eq_self, hoist, evalD, O.cls, readsOk, List.tail_cons, List.headD_cons, List.nil_append, List.cons_append, List.getLast?_cons_cons, List.getLast?_singleton, Nat.sub_zero, Int.toNat_natCast, ite_self, Nat.add_zero, Nat.zero_add, Nat.zero_mul, Option.isNone_none, Option.isNone_some, Option.isSome_none, Option.isSome_some, Int.reduceBEq, Int.reduceBNe, Int.reduceLT, Int.reduceLE, Int.reduceGT, Int.reduceGE, Int.reduceEq, decide_true, decide_false, Bool.not_true, Bool.not_false, Int.reduceMul, Int.reduceAdd, Int.reduceSub, Int.reduceToNat, Nat.reduceMul, Nat.reduceSub, Nat.reduceLT, Nat.reduceLeDiff, beq_self_eq_true, bne_self_eq_false, Bool.true_beq, Bool.false_beq, ne_eq, not_true_eq_false, not_false_eq_true, Bool.false_eq_true, Bool.or_self, or_self, AV.cells, AV.one, List.all_cons, List.all_nil, Bool.and_true, Bool.true_and, List.length_cons, List.length_nil, splice, List.set_cons_zero, List.set_cons_succ, Nat.le_refl, Nat.reduceLeDiff, iter_succ, readA, readK, loadA, List.getElem?_cons_zero, List.getElem?_cons_succ, Bool.and_self, and_self, and_true, true_and, s59, fr0, frameOf] at hit' ⊢
    simp (maxSteps := 4000000) only [hit', evalT_fn, BK.hid, cond_true, cond_false, guess0, List.tail_nil, List.headD_nil, evalS, evalOps, evalOp, evalO, wantedA, opd, opds, optOpd, optInt, putO, frameOf, T.get_set, T.get_nil, Option.map_some, Option.map_none, Nat.reduceEqDiff, if_true, if_false, reduceIte, reduceCtorEq, Nat.reduceAdd, resA, oneOrTuple, binA, binInt, eqA, lenA, capA, unA, partA, partsA, fillA_nil, sliceA, bounds_none, bounds_lo, bounds_hi, bounds_lohi, evalDreg_false, List.take_succ_cons, List.take_zero, List.take_nil, List.drop_zero, List.drop_succ_cons, List.drop_nil, AV.beq, eq_self, hoist, evalD, O.cls, readsOk, List.tail_cons, List.headD_cons, List.nil_append, List.cons_append, List.getLast?_cons_cons, List.getLast?_singleton, Nat.sub_zero, Int.toNat_natCast, ite_self, Nat.add_zero, Nat.zero_add, Nat.zero_mul, Option.isNone_none, Option.isNone_some, Option.isSome_none, Option.isSome_some, Int.reduceBEq, Int.reduceBNe, Int.reduceLT, Int.reduceLE, Int.reduceGT, Int.reduceGE, Int.reduceEq, decide_true, decide_false, Bool.not_true, Bool.not_false, Int.reduceMul, Int.reduceAdd, Int.reduceSub, Int.reduceToNat, Nat.reduceMul, Nat.reduceSub, Nat.reduceLT, Nat.reduceLeDiff, beq_self_eq_true, bne_self_eq_false, Bool.true_beq, Bool.false_beq, ne_eq, not_true_eq_false, not_false_eq_true, Bool.false_eq_true, Bool.or_self, or_self, AV.cells, AV.one, List.all_cons, List.all_nil, Bool.and_true, Bool.true_and, List.length_cons, List.length_nil, splice, List.set_cons_zero, List.set_cons_succ, Nat.le_refl, Nat.reduceLeDiff, iter_succ, readA, readK, loadA, List.getElem?_cons_zero, List.getElem?_cons_succ, Bool.and_self, and_self, and_true, true_and, g0, g1, g2, g8, g9, g10, g38, b1, c1, e1, Nat.mul_one, List.append_nil]
  · have g38 : decide ((lo : Int) < (free.length : Int)) = false := by simp; omega
    refine ⟨lo, false, ?_, hhi, hlo, hup⟩
    simp (maxSteps := 4000000) only [evalFn_text F2_bs, evalT_fn, BK.hid, cond_true, cond_false, guess0, List.tail_nil, List.headD_nil, evalS, evalOps, evalOp, evalO, wantedA, opd, opds, optOpd, optInt, putO, frameOf, T.get_set, T.get_nil, Option.map_some, Option.map_none, Nat.reduceEqDiff, if_true, if_false, reduceIte, reduceCtorEq, Nat.reduceAdd, resA, oneOrTuple, binA, binInt, eqA, lenA, capA, unA, partA, partsA, fillA_nil, sliceA, bounds_none, bounds_lo, bounds_hi, bounds_lohi, evalDreg_false, List.take_succ_cons, List.take_zero, List.take_nil, List.drop_zero, List.drop_succ_cons, List.drop_nil, AV.beq, eq_self, hoist, evalD, O.cls, readsOk, List.tail_cons, List.headD_cons, List.nil_append, List.cons_append, List.getLast?_cons_cons, List.getLast?_singleton, Nat.sub_zero, Int.toNat_natCast, ite_self, Nat.add_zero, Nat.zero_add, Nat.zero_mul, Option.isNone_none, Option.isNone_some, Option.isSome_none, Option.isSome_some, Int.reduceBEq, Int.reduceBNe, Int.reduceLT, Int.reduceLE, Int.reduceGT, Int.reduceGE, Int.reduceEq, decide_true, decide_false, Bool.not_true, Bool.not_false, Int.reduceMul, Int.reduceAdd, Int.reduceSub, Int.reduceToNat, Nat.reduceMul, Nat.reduceSub, Nat.reduceLT, Nat.reduceLeDiff, beq_self_eq_true, bne_self_eq_false, Bool.true_beq, Bool.false_beq, ne_eq, not_true_eq_false, not_false_eq_true, Bool.false_eq_true, Bool.or_self, or_self, AV.cells, AV.one, List.all_cons, List.all_nil, Bool.and_true, Bool.true_and, List.length_cons, List.length_nil, splice, List.set_cons_zero, List.set_cons_succ, Nat.le_refl, Nat.reduceLeDiff, iter_succ, readA, readK, loadA, List.getElem?_cons_zero, List.getElem?_cons_succ, Bool.and_self, and_self, and_true, true_and, s59, fr0, frameOf] at hit' ⊢
    simp (maxSteps := 4000000) only [hit', evalT_fn, BK.hid, cond_true, cond_false, guess0, List.tail_nil, List.headD_nil, evalS, evalOps, evalOp, evalO, wantedA, opd, opds, optOpd, optInt, putO, frameOf, T.get_set, T.get_nil, Option.map_some, Option.map_none, Nat.reduceEqDiff, if_true, if_false, reduceIte, reduceCtorEq, Nat.reduceAdd, resA, oneOrTuple, binA, binInt, eqA, lenA, capA, unA, partA, partsA, fillA_nil, sliceA, bounds_none, bounds_lo, bounds_hi, bounds_lohi, evalDreg_false, List.take_succ_cons, List.take_zero, List.take_nil, List.drop_zero, List.drop_succ_cons, List.drop_nil, AV.beq, eq_self, hoist, evalD, O.cls, readsOk, List.tail_cons, List.headD_cons, List.nil_append, List.cons_append, List.getLast?_cons_cons, List.getLast?_singleton, Nat.sub_zero, Int.toNat_natCast, ite_self, Nat.add_zero, Nat.zero_add, Nat.zero_mul, Option.isNone_none, Option.isNone_some, Option.isSome_none, Option.isSome_some, Int.reduceBEq, Int.reduceBNe, Int.reduceLT, Int.reduceLE, Int.reduceGT, Int.reduceGE, Int.reduceEq, decide_true, decide_false, Bool.not_true, Bool.not_false, Int.reduceMul, Int.reduceAdd, Int.reduceSub, Int.reduceToNat, Nat.reduceMul, Nat.reduceSub, Nat.reduceLT, Nat.reduceLeDiff, beq_self_eq_true, bne_self_eq_false, Bool.true_beq, Bool.false_beq, ne_eq, not_true_eq_false, not_false_eq_true, Bool.false_eq_true, Bool.or_self, or_self, AV.cells, AV.one, List.all_cons, List.all_nil, Bool.and_true, Bool.true_and, List.length_cons, List.length_nil, splice, List.set_cons_zero, List.set_cons_succ, Nat.le_refl, Nat.reduceLeDiff, iter_succ, readA, readK, loadA, List.getElem?_cons_zero, List.getElem?_cons_succ, Bool.and_self, and_self, and_true, true_and, g0, g1, g2, g8, g9, g10, g38]

end Go.Proofs.Ytchffjnmkpedkaa
