/-
  The arena, by what is owned: New, Keep, At, and where a node comes to lie. Own work of this session.
-/
import Derived.Test.YtchffjnmkpedkaaMa
set_option linter.unusedSectionVars false
set_option linter.unusedSimpArgs false
set_option linter.unusedVariables false
namespace Go.Proofs.Ytchffjnmkpedkaa
set_option linter.unusedSectionVars false
set_option linter.unusedSimpArgs false
set_option linter.unusedVariables false
open Go.Lite Go.RowKit Go.Lite.Arena Go.Lite.Sep Go.Lite.Sep.Asn
set_option maxHeartbeats 400000
set_option maxRecDepth 10000

section
variable {A : Per} {Hs : List Asn} {a : Nat} {most : Int} {S : St} {p1 p2 : Option (Nat × Nat)} {c1 c2 : Cap}

theorem aNew_err {most : Int} (h : most < 1 ∨ 20000 < most) : Does F2 13 [.int .i64 most] A [] fun v A' H' => v = .tuple [.ptr none, .int .i64 2] ∧ A' = A ∧ H' = [] := by
  refine Does.fn F2_new ?_
  by_cases h1 : most < 1
  · refine go ?_
    exact retQ_r rfl (Ent.refl _ _) ⟨rfl, rfl, rfl⟩
  · have h2 : most > 20000 := by omega
    refine go ?_
    exact retQ_r rfl (Ent.refl _ _) ⟨rfl, rfl, rfl⟩

theorem aNew_ok {most : Int} (h1 : 1 ≤ most) (h2 : most ≤ 20000) : Does F2 13 [.int .i64 most] A [] fun v A' H' => A' = A ∧ ∃ a, v = .tuple [.ptr (some (a, 0)), .int .i64 0] ∧ H' = [aA a most []] := by
  refine Does.fn F2_new ?_
  refine go ?_
  apply WP.box; exact rfl; exact rfl; intro a
  refine go ?_
  refine retQ_r rfl (Hs' := [aA a most []]) ?_ ⟨rfl, a, rfl, rfl⟩
  exact ((Ent.nil 26).trans (Ent.nil 1)).trans (aA_shut (S := []) (p1 := none) (c1 := .known 0) (p2 := none) (c2 := .known 0) (.inl rfl))

theorem aKeep (hlen : S.length < 1000000) (id : Int) (hr : rf S id < 1000000000) : Does F2 14 [.ptr (some (a, 0)), .int .i64 id] A [aA a most S] fun v A' H' => A' = A ∧ ((rf S id = 0 ∧ v = .int .i64 10 ∧ H' = [aA a most S]) ∨ (rf S id ≠ 0 ∧ v = .int .i64 0 ∧ H' = [aA a most (inc S id)])) := by
  refine Does.aA fun p1 c1 p2 c2 hc2 => Does.fn F2_keep ?_
  refine go ?_
  refine WP.opd (OpOk.call rfl rfl (slot_d hlen id) (R := []) rfl ?_)
  rintro v A1 H1 - ⟨rfl, rfl, rfl⟩
  unfold slotV
  by_cases h0 : rf S id = 0
  · rw [if_pos h0]
    refine go ?_
    refine WP.opd (OpOk.call0 rfl rfl (none_d _) ?_)
    rintro v A2 H2 - ⟨rfl, rfl, rfl⟩
    refine go ?_
    exact retQ_r rfl (aA_shut (p1 := p1) (c1 := c1) (p2 := p2) (c2 := c2)) ⟨rfl, .inl ⟨h0, rfl, rfl⟩⟩
  · obtain ⟨x, hx, hrx, h1, h2⟩ := rf_at h0
    have hc := slot_cell hx h1
    have hfl := flat_length slotC_len S
    rw [if_neg h0]
    unfold aH
    refine WP.open 1 rfl (by omega) fun b hb hln => ?_
    subst hb
    refine go ?_
    apply WP.store; exact rfl; exact rfl; exact rfl; exact Wr.slb 1 rfl (by simp [AV.cells, hfl]; omega) rfl
    refine go ?_
    have e := slots_upd hx (· + 1) (z := (x.2 : Int) + 1) (by omega)
    have e2 : (inc S id).length = S.length := length_upd _ _ _
    have e3 : freeOf (inc S id) = freeOf S := upd_free h0 (by omega)
    refine retQ_r rfl (Hs' := [aA a most (inc S id)]) (Ent.trans (A1 := _) (H1 := aH a most (inc S id) (some (b, 0)) c1 p2 c2) ?_ aA_shut) ⟨rfl, .inr ⟨h0, rfl, rfl⟩⟩
    unfold aH
    rw [e2, e3]
    refine Ent.trans (Ent.at 1 rfl slb_sl) ?_
    simp only [AV.cells, Nat.zero_add] at e ⊢
    rw [show (inc S id).flatMap slotC = _ from e.symm]
    exact Ent.refl _ _

theorem node_take {S : St} {id : Int} {x : Nd × Nat} (hx : at? S id = some x) (h1 : 1 ≤ id) : ((S.flatMap slotC).drop (0 + (id - 1).toNat * 26 + 0)).take 25 = nodeC x.1 := by
  unfold at? at hx
  rw [if_pos h1] at hx
  rw [show 0 + (id - 1).toNat * 26 + 0 = (id - 1).toNat * 26 + 0 by omega, flat_cells slotC_len S _ 0 25 x hx (by omega), List.drop_zero]
  simp only [slotC]
  rw [List.take_append_of_le_length (by rw [nodeC_len]; omega), List.take_of_length_le (by rw [nodeC_len]; omega)]

theorem aAt (hlen : S.length < 1000000) (id : Int) : Does F2 21 [.ptr (some (a, 0)), .int .i64 id] A (aH a most S p1 c1 p2 c2) fun v A' H' => A' = A ∧ H' = aH a most S p1 c1 p2 c2 ∧ ((rf S id = 0 ∧ v = .tuple [.agg zN, .int .i64 10]) ∨ (∃ x, at? S id = some x ∧ rf S id ≠ 0 ∧ v = .tuple [.agg (nodeC x.1), .int .i64 0])) := by
  refine Does.fn F2_at ?_
  apply WP.seq; apply WP.new; intro n
  refine go ?_
  refine WP.opd (OpOk.call rfl rfl (slot_d hlen id) (R := [pts n ⟨zN, .own⟩]) rfl ?_)
  rintro v A1 H1 - ⟨rfl, rfl, rfl⟩
  unfold slotV
  by_cases h0 : rf S id = 0
  · rw [if_pos h0]
    refine go ?_
    refine WP.opd (OpOk.call0 rfl rfl (none_d _) ?_)
    rintro v A2 H2 - ⟨rfl, rfl, rfl⟩
    refine go ?_
    apply WP.store; exact rfl; exact rfl; exact rfl; exact Wr.pts 3 rfl rfl (by simp) (by simp [AV.cells, zN]) rfl
    refine go ?_
    exact retQ_x (.cs rfl (Rds.pts (vs := zN) 3 rfl rfl (Nat.le_refl _) rfl) (.t rfl .nil)) (Ent.take 3) ⟨rfl, rfl, .inl ⟨h0, rfl⟩⟩
  · obtain ⟨x, hx, hrx, h1, h2⟩ := rf_at h0
    have hfl := flat_length slotC_len S
    have hnl := nodeC_len x.1
    rw [if_neg h0]
    unfold aH
    refine WP.open 1 rfl (by omega) fun b hb hln => ?_
    subst hb
    refine go ?_
    apply WP.loads; exact rfl; exact Rds.slb 1 rfl (by simp [hfl]; omega) (node_take hx h1)
    apply WP.store; exact rfl; exact rfl; exact hnl; exact Wr.pts 3 rfl rfl (by simp) (by simp [AV.cells, hnl, zN]) (nodeC_one _)
    simp only [AV.cells]
    rw [splice_all _ _ (by rw [hnl]; rfl)]
    refine go ?_
    exact retQ_x (.cs rfl (Rds.pts (vs := nodeC x.1) 3 rfl rfl (by rw [hnl]; simp) (by rw [List.drop_zero, List.take_of_length_le (by omega)])) (.t rfl .nil)) ((Ent.at 1 rfl slb_sl).trans (Ent.take 3)) ⟨rfl, rfl, .inr ⟨x, hx, h0, rfl⟩⟩

/-- Where the next node lies: a place at the end, or the least one that is free. -/
def Place (S : St) (i : Nat) (T : St) (fl : List Int) : Prop :=
  (freeOf S = [] ∧ i = S.length ∧ T = S ++ [(zNd, 0)] ∧ fl = []) ∨ (T = S ∧ freeOf S = fl ++ [(i : Int) + 1])

theorem place_d (hlen : S.length + 1 < 1000000) : Does F2 50 [.ptr (some (a, 0))] A (aH a most S p1 c1 p2 c2) fun v A' H' => A' = A ∧ ∃ (i : Nat) (T : St) (fl : List Int) (q1 : Option (Nat × Nat)) (d1 : Cap), v = .int .i64 ((i : Int) + 1) ∧ i < T.length ∧ Place S i T fl ∧ T.length ≤ S.length + 1 ∧
    H' = [pts a ⟨[.int .i64 most, .slice q1 T.length d1, .slice p2 fl.length c2], .own⟩, sl q1 d1 26 T.length (T.flatMap slotC), sl p2 c2 1 fl.length (fl.map (AV.int .i64))] := by
  refine Does.fn F2_place ?_
  have hfl := freeOf_length S
  unfold aH
  refine go ?_
  refine WP.cond rfl (fun hb => ?_) (fun hb => ?_)
  · have hn : freeOf S = [] := by simpa using hb
    rw [hn]
    refine go ?_
    apply WP.buildSlice (cs := zS); exact rfl; exact rfl; intro b1
    apply WP.append 1; exact rfl; exact rfl; exact rfl; exact Src.pts 3 rfl rfl rfl rfl; exact ⟨by simp [maxLenB]; omega, by simp [maxLenB]; omega⟩
    intro q1 d1
    refine go ?_
    apply WP.store; exact rfl; exact rfl; exact rfl; exact Wr.pts 0 rfl rfl (by simp) (by simp [AV.cells, splice]) rfl
    refine go ?_
    refine retQ_r rfl (Ent.take 3) ⟨rfl, S.length, S ++ [(zNd, 0)], [], q1, d1, rfl, by simp, .inl ⟨hn, rfl, rfl, rfl⟩, by simp, ?_⟩
    rw [List.length_append, List.flatMap_append]
    simp only [List.length_singleton, List.flatMap_cons, List.flatMap_nil, List.append_nil, ← zS_eq]
    rfl
  · obtain ⟨fl, y, hy⟩ : ∃ fl y, freeOf S = fl ++ [y] := by
      rcases List.eq_nil_or_concat (freeOf S) with h | ⟨l, x, h⟩
      · rw [h] at hb; simp at hb
      · exact ⟨l, x, by rw [h, List.concat_eq_append]⟩
    obtain ⟨m1, m2, m3⟩ := mem_freeOf.1 (show y ∈ freeOf S by rw [hy]; simp)
    have hl : (freeOf S).length = fl.length + 1 := by rw [hy]; simp
    rw [hy]
    simp only [List.length_append, List.length_singleton, List.map_append, List.map_cons, List.map_nil]
    refine WP.open (cs := fl.map (AV.int .i64) ++ [.int .i64 y]) 2 rfl (by omega) fun b hb hln => ?_
    subst hb
    have hc : (fl.map (AV.int .i64) ++ [.int .i64 y])[0 + (((fl.length + 1 : Nat) : Int) - 1).toNat * 1]? = some (.int .i64 y) := by
      rw [show 0 + (((fl.length + 1 : Nat) : Int) - 1).toNat * 1 = (fl.map (AV.int .i64)).length + 0 by simp, List.getElem?_append_right (by omega)]; simp
    refine go ?_
    refine WP.ent (Ent.at 2 rfl slb_sl) ?_
    apply WP.reslice (e := 1) (k := fl.length) 2; exact rfl; exact rfl; exact rfl; omega; omega; omega
    refine go ?_
    apply WP.store; exact rfl; exact rfl; exact rfl; exact Wr.pts 0 rfl rfl (by simp) (by simp [AV.cells]) rfl
    refine go ?_
    refine retQ_r rfl (Ent.refl _ _) ⟨rfl, (y - 1).toNat, S, fl, p1, c1, ?_, by omega, .inr ⟨rfl, ?_⟩, by omega, ?_⟩
    · simp only [oneOrTuple]; congr 1; omega
    · rw [hy, show ((y - 1).toNat : Int) + 1 = y by omega]
    · simp [splice, AV.cells]
end
end Go.Proofs.Ytchffjnmkpedkaa
