/-
  The arena: Make, what it comes to. Own work of this session.
-/
import Derived.Test.YtchffjnmkpedkaaAz
set_option linter.unusedSectionVars false
set_option linter.unusedSimpArgs false
set_option linter.unusedVariables false
namespace Go.Proofs.Ytchffjnmkpedkaa
set_option linter.unusedSectionVars false
set_option linter.unusedSimpArgs false
set_option linter.unusedVariables false
open Go.Lite Go.RowKit Go.Lite.Arena
set_option maxHeartbeats 4000000
set_option maxRecDepth 10000

/-- Make. -/
theorem make_ok {n : Nat} {h : Hp} {a : Nat} {most : Int} {S : St} {bs fs : List Nat} (A : AAt h a most S bs fs) (hS : S.length + 1 < 1000000) (htot : total S + 10 < 1000000000) (hn : 20 < n) (nd : Nd) :
    (((norm nd).kids.all (kidOk S) = false → ∃ h', evalFn F2 n 15 [.ptr (some (a, 0)), .agg (nodeC nd)] h = some (.tuple [.int .i64 0, .int .i64 10], h') ∧ AAt h' a most S bs fs ∧ Kept h h' [])) ∧
    ((norm nd).kids.all (kidOk S) = true → most ≤ (S.length : Int) - (freeOf S).length → ∃ h', evalFn F2 n 15 [.ptr (some (a, 0)), .agg (nodeC nd)] h = some (.tuple [.int .i64 0, .int .i64 14], h') ∧ AAt h' a most S bs fs ∧ Kept h h' []) ∧
    ((norm nd).kids.all (kidOk S) = true → ¬ most ≤ (S.length : Int) - (freeOf S).length → ∃ h' id S1 b', evalFn F2 n 15 [.ptr (some (a, 0)), .agg (nodeC nd)] h = some (.tuple [.int .i64 id, .int .i64 0], h') ∧
      NewAt S id (norm nd) S1 ∧ AAt h' a most (incs S1 (norm nd).kids) [b'] fs ∧ Kept h h' (a :: (bs ++ fs)) ∧ (b' ∈ bs ∨ h.next ≤ b')) := by
  obtain ⟨k, rfl⟩ : ∃ k, n = k + 1 := ⟨n - 1, by omega⟩
  have hlt := A.lt
  obtain ⟨fr1, e0, a0, a3⟩ := k0_ok (k := k) (h := h) (call := evalT F2 k) (a := a) (n := nd)
  obtain ⟨fr2, e1, k1⟩ := k1_ok (k := k) (h := h.new ⟨nodeC nd, .own⟩) (fr := fr1) (call := evalT F2 k) a0
  obtain ⟨fr3, e2, k2⟩ := k2_ok (k := k) (h := h.new ⟨nodeC nd, .own⟩) (fr := fr2) (call := evalT F2 k) (by rw [k1 3 (by omega)]; exact a3) (by rw [Hp.get_new, if_pos rfl])
  generalize hh1 : (h.new ⟨nodeC nd, .own⟩).put h.next ⟨nodeC (norm nd), .own⟩ = h1 at e2
  have hx : h1.get h.next = some ⟨nodeC (norm nd), .own⟩ := by rw [← hh1, Hp.get_put, if_pos rfl]
  have hk1 : Kept h h1 [] := ⟨by rw [← hh1]; simp, fun c hc _ => by rw [← hh1, Hp.get_put, if_neg (by omega), get_new_ne hc]⟩
  have hn1 : h1.next = h.next + 1 := by rw [← hh1]; simp
  have A1 : AAt h1 a most S bs fs := A.kept hk1 (by simp)
  obtain ⟨fr4, e3, b21, b22, k3⟩ := k3_ok (k := k) (h := h1) (fr := fr3) (call := evalT F2 k) (by rw [k2 3 (by omega), k1 3 (by omega)]; exact a3) hx
  have b0 : fr4.get 0 = some (.ptr (some (a, 0))) := by rw [k3 0 (by omega), k2 0 (by omega), k1 0 (by omega)]; exact a0
  have b3 : fr4.get 3 = some (.ptr (some (h.next, 0))) := by rw [k3 3 (by omega), k2 3 (by omega), k1 3 (by omega)]; exact a3
  obtain ⟨⟨sl, fl, hA1, hS1, hF1⟩, hnd, hlt1, hSl⟩ := A1
  have A1 : AAt h1 a most S bs fs := ⟨⟨sl, fl, hA1, hS1, hF1⟩, hnd, hlt1, hSl⟩
  obtain ⟨x, fr5, h5, hit, hx1, rfl, d0, d3, hd⟩ := iter_inv (body := evalS (evalT F2 k) k s15_l0) (ChkI (norm nd).kids S fr4 h1) _
    (fun mm fr' h' I => chk_step (k := k) (norm nd).hk b0 (fun y => slot_ok (by omega) hA1 hS1 hSl y) mm fr' h' I) k 8 fr4 h1 (by omega) ⟨0, rfl, by omega, rfl, b21, b22, rfl, rfl, by simp⟩
  rcases hd with ⟨rfl, hall⟩ | ⟨rfl, hall, r4, r5⟩
  · refine ⟨fun hh => (by rw [hall] at hh; cases hh), ?_⟩
    have hfl := freeOf_length S
    have eu : evalFn F2 k 19 [.ptr (some (a, 0))] h5 = some (.int .i64 ((S.length : Int) - (freeOf S).length), h5) := by
      have hsl : ∃ b1 c1, sl = .slice b1 S.length c1 := by
        match bs, hS1 with
        | [], ⟨e, f⟩ => exact ⟨none, .known 0, by rw [f, e]; rfl⟩
        | [b], ⟨e, _⟩ => exact ⟨_, _, e⟩
      have hff : ∃ b1 c1, fl = .slice b1 (freeOf S).length c1 := by
        match fs, hF1 with
        | [], ⟨e, f⟩ => exact ⟨none, .known 0, by rw [f, e]; rfl⟩
        | [b], ⟨e, _⟩ => exact ⟨_, _, e⟩
      obtain ⟨b1, c1, rfl⟩ := hsl
      obtain ⟨b2, c2, rfl⟩ := hff
      exact used_ok (by omega) hA1 (by omega) hfl
    obtain ⟨fr6, e4, r4, k4⟩ := k4_ok (F := F2) (k := k) (h := h5) (fr := fr5) (most := most) (by rw [d0]; exact b0) eu (by rw [Hp.cell_at hA1 rfl]; rfl)
    refine ⟨fun _ hm => ?_, fun _ hm => ?_⟩
    · rw [if_pos hm] at e4
      obtain ⟨q4, q5⟩ := r4 hm
      refine ⟨h5, ?_, A1, hk1⟩
      rw [evalFn_text F2_make, k_eq]
      simp only [evalS, e0, e1, e2, e3, hit, if_true, e4]
      simp only [s15, evalT_fn, BK.hid, cond_true, cond_false, guess0, List.tail_nil, List.headD_nil, evalS, evalOps, evalOp, evalO, wantedA, opd, opds, optOpd, optInt, putO, frameOf, T.get_set, T.get_nil, Option.map_some, Option.map_none, Nat.reduceEqDiff, if_true, if_false, reduceIte, reduceCtorEq, Nat.reduceAdd, resA, oneOrTuple, binA, binInt, eqA, lenA, capA, unA, partA, partsA, fillA, sliceA, bounds_none, bounds_lo, bounds_hi, bounds_lohi, evalDreg_false, List.take_succ_cons, List.take_zero, List.take_nil, List.drop_zero, List.drop_succ_cons, List.drop_nil, AV.beq, eq_self, hoist, evalD, O.cls, readsOk, List.tail_cons, List.headD_cons, List.nil_append, List.cons_append, List.getLast?_cons_cons, List.getLast?_singleton, Nat.sub_zero, Int.toNat_natCast, ite_self, Nat.add_zero, Nat.zero_add, Nat.zero_mul, q4, q5]
    · rw [if_neg hm] at e4
      have hxa : h.next ∉ a :: (bs ++ fs) := fun hh => by have := hlt _ hh; omega
      obtain ⟨fr7, h7, id, S1, b', e7, v4, v5, hnew, A7, kp, hb⟩ := make_end (n' := 0) (k := k) (h := h5) (fr := fr6) (by omega) A1 hS htot (by rw [k4 0 (by omega), d0]; exact b0) (by rw [k4 3 (by omega), d3]; exact b3) hx (by omega) hxa
      refine ⟨h7, id, S1, b', ?_, hnew, A7, ⟨Nat.le_trans hk1.1 kp.1, fun c hc hcl => by rw [kp.2 c (by omega) hcl]; exact hk1.2 c hc (by simp)⟩, hb.imp (fun e => e) (by omega)⟩
      rw [evalFn_text F2_make, k_eq]
      simp only [evalS] at e7
      simp only [evalS, e0, e1, e2, e3, hit, if_true, e4, e7]
      simp only [s15, evalT_fn, BK.hid, cond_true, cond_false, guess0, List.tail_nil, List.headD_nil, evalS, evalOps, evalOp, evalO, wantedA, opd, opds, optOpd, optInt, putO, frameOf, T.get_set, T.get_nil, Option.map_some, Option.map_none, Nat.reduceEqDiff, if_true, if_false, reduceIte, reduceCtorEq, Nat.reduceAdd, resA, oneOrTuple, binA, binInt, eqA, lenA, capA, unA, partA, partsA, fillA, sliceA, bounds_none, bounds_lo, bounds_hi, bounds_lohi, evalDreg_false, List.take_succ_cons, List.take_zero, List.take_nil, List.drop_zero, List.drop_succ_cons, List.drop_nil, AV.beq, eq_self, hoist, evalD, O.cls, readsOk, List.tail_cons, List.headD_cons, List.nil_append, List.cons_append, List.getLast?_cons_cons, List.getLast?_singleton, Nat.sub_zero, Int.toNat_natCast, ite_self, Nat.add_zero, Nat.zero_add, Nat.zero_mul, v4, v5]
  · refine ⟨fun _ => ?_, fun hh => (by rw [hall] at hh; cases hh), fun hh => (by rw [hall] at hh; cases hh)⟩
    refine ⟨h5, ?_, A1, hk1⟩
    rw [evalFn_text F2_make, k_eq]
    simp only [evalS, e0, e1, e2, e3, hit, reduceCtorEq, if_false]
    simp only [s15, evalT_fn, BK.hid, cond_true, cond_false, guess0, List.tail_nil, List.headD_nil, evalS, evalOps, evalOp, evalO, wantedA, opd, opds, optOpd, optInt, putO, frameOf, T.get_set, T.get_nil, Option.map_some, Option.map_none, Nat.reduceEqDiff, if_true, if_false, reduceIte, reduceCtorEq, Nat.reduceAdd, resA, oneOrTuple, binA, binInt, eqA, lenA, capA, unA, partA, partsA, fillA, sliceA, bounds_none, bounds_lo, bounds_hi, bounds_lohi, evalDreg_false, List.take_succ_cons, List.take_zero, List.take_nil, List.drop_zero, List.drop_succ_cons, List.drop_nil, AV.beq, eq_self, hoist, evalD, O.cls, readsOk, List.tail_cons, List.headD_cons, List.nil_append, List.cons_append, List.getLast?_cons_cons, List.getLast?_singleton, Nat.sub_zero, Int.toNat_natCast, ite_self, Nat.add_zero, Nat.zero_add, Nat.zero_mul, r4, r5]

end Go.Proofs.Ytchffjnmkpedkaa
