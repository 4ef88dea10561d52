/-
  The arena, by what is owned: Drop. Own work of this session.
-/
import Derived.Test.YtchffjnmkpedkaaMd
set_option linter.unusedSectionVars false
set_option linter.unusedSimpArgs false
set_option linter.unusedVariables false
namespace Go.Proofs.Ytchffjnmkpedkaa
set_option linter.unusedSectionVars false
set_option linter.unusedSimpArgs false
set_option linter.unusedVariables false
open Go.Lite Go.RowKit Go.Lite.Arena Go.Lite.Sep Go.Lite.Sep.Asn
set_option maxHeartbeats 400000
set_option maxRecDepth 10000

section
variable {A : Per} {Hs : List Asn} {a : Nat} {most : Int} {S : St} {p1 p2 : Option (Nat × Nat)} {c1 c2 : Cap}

theorem kids_take {S : St} {id : Int} {x : Nd × Nat} (hx : at? S id = some x) (h1 : 1 ≤ id) : ((S.flatMap slotC).drop (0 + (id - 1).toNat * 26 + 0 + 1)).take 8 = x.1.kids.map (AV.int .i64) := by
  unfold at? at hx
  rw [if_pos h1] at hx
  rw [show 0 + (id - 1).toNat * 26 + 0 + 1 = (id - 1).toNat * 26 + 1 by omega, flat_cells slotC_len S _ 1 8 x hx (by omega)]
  rw [← nodeC_kids]
  simp only [slotC]
  rw [List.drop_append_of_le_length (by rw [nodeC_len]; omega), List.take_append_of_le_length (by simp [nodeC_len])]

/-- A node whose count has come to nothing is free. -/
theorem aH_gone {U : St} {k : Int} {c : Nat} (h1 : rf U k = 1) (hs : Spot (freeOf U) k c) : freeOf (dec U k) = (freeOf U).take c ++ [k] ++ (freeOf U).drop c := by
  obtain ⟨x, hx, hrx, q1, q2⟩ := rf_at (S := U) (id := k) (by omega)
  exact freeOf_gone (length_upd _ _ _) q1 q2 (by omega) (by rw [rf_dec, if_pos rfl]; omega) (fun y hy => by rw [rf_dec, if_neg hy]) hs

theorem aDrop (hlen : S.length < 1000000) (htot : 9 * total S + 10 < 1000000000) (id : Int) : Does F2 18 [.ptr (some (a, 0)), .int .i64 id] A [aA a most S] fun v A' H' => A' = A ∧ ((rf S id = 0 ∧ v = .int .i64 10 ∧ H' = [aA a most S]) ∨ (rf S id ≠ 0 ∧ v = .int .i64 0 ∧ ∃ T, Runs [id] S T ∧ H' = [aA a most T])) := by
  refine Does.aA fun p1 c1 p2 c2 hc2 => Does.fn F2_drop ?_
  refine go ?_
  refine WP.opd (OpOk.call rfl rfl (slot_d hlen id) (R := []) rfl ?_)
  rintro v A1 H1 - ⟨rfl, rfl, rfl⟩
  refine WP.tell 1 rfl sl_pos fun hp1 => ?_
  unfold slotV
  by_cases h0 : rf S id = 0
  · rw [if_pos h0]
    refine go ?_
    refine WP.opd (OpOk.call0 rfl rfl (none_d _) ?_)
    rintro v A2 H2 - ⟨rfl, rfl, rfl⟩
    refine go ?_
    exact retQ_r rfl (aA_shut (p1 := p1) (c1 := c1) (p2 := p2) (c2 := c2)) ⟨rfl, .inl ⟨h0, rfl, rfl⟩⟩
  obtain ⟨_, _, _, z1, z2⟩ := rf_at h0
  obtain ⟨b0, rfl⟩ := hp1 (by omega)
  rw [if_neg h0]
  refine go ?_
  apply WP.buildSlice (cs := [.int .i64 id]); exact rfl; exact rfl; intro w
  refine go ?_
  refine WP.loop (σ := St × List Int × Option (Nat × Nat) × Cap) (fun s => s.2.1.length + 9 * total s.1) (fun s => [(0, .ptr (some (a, 0))), (5, .slice s.2.2.1 s.2.1.length s.2.2.2)]) (fun s => [aA a most s.1, sl s.2.2.1 s.2.2.2 1 s.2.1.length (s.2.1.map (AV.int .i64))])
    (fun s A' => A' = A1 ∧ (∀ T, Runs s.2.1.reverse s.1 T → Runs [id] S T) ∧ total s.1 ≤ total S ∧ s.2.1.length + 9 * total s.1 ≤ 1 + 9 * total S ∧ s.1.length = S.length) (S, [id], some (w, 0), .known 1) LeE.go (A' := A1) ?_ ⟨rfl, fun T hT => hT, Nat.le_refl _, by simp, rfl⟩ ?_
  · exact (Ent.at 3 rfl (pts_sl (e := 1) (n := 1) rfl rfl (by omega))).trans ((aA_shut (p1 := some (b0, 0)) (c1 := c1) (p2 := p2) (c2 := c2)).frame _)
  rintro ⟨U, l, wp, wc⟩ A2 ⟨rfl, hrun, hto, hsz, hUl⟩
  simp only at hrun hto hsz hUl ⊢
  unfold s18_l1
  refine go ?_
  refine WP.cond rfl (fun hb => ?_) (fun hb => ?_)
  · obtain ⟨l', k, rfl⟩ : ∃ l' k, l = l' ++ [k] := by
      rcases List.eq_nil_or_concat l with h | ⟨l', x, h⟩
      · rw [h] at hb; simp at hb
      · exact ⟨l', x, by rw [h, List.concat_eq_append]⟩
    simp only [List.length_append, List.length_singleton, List.map_append, List.map_cons, List.map_nil] at hsz ⊢
    refine WP.open (cs := l'.map (AV.int .i64) ++ [.int .i64 k]) 1 rfl (by omega) fun wb hb hln => ?_
    subst hb
    have hc : (l'.map (AV.int .i64) ++ [.int .i64 k])[0 + (((l'.length + 1 : Nat) : Int) - 1).toNat * 1]? = some (.int .i64 k) := by
      rw [show 0 + (((l'.length + 1 : Nat) : Int) - 1).toNat * 1 = (l'.map (AV.int .i64)).length + 0 by simp, List.getElem?_append_right (by omega)]; simp
    refine go ?_
    refine WP.ent (Ent.at 1 rfl slb_sl) ?_
    apply WP.reslice (e := 1) (k := l'.length) 1; exact rfl; exact rfl; exact rfl; omega; omega; omega
    rw [show (l'.map (AV.int .i64) ++ [AV.int .i64 k]).take (l'.length * 1) = l'.map (AV.int .i64) by simp]
    refine go ?_
    refine WP.unex 0 rfl fun q => WP.unstarAt 0 rfl ?_
    obtain ⟨⟨p1, c1, p2, c2⟩, hc2⟩ := q
    replace hc2 : CapF c2 := hc2
    refine WP.ent (Ent.perm (Hs' := aH a most U p1 c1 p2 c2 ++ [sl (some (wb, 0)) wc 1 l'.length (l'.map (AV.int .i64))]) (List.perm_append_comm (l₁ := [_]))) ?_
    refine WP.opd (OpOk.call rfl rfl (slot_d (by omega) k) (R := [sl (some (wb, 0)) wc 1 l'.length (l'.map (AV.int .i64))]) rfl ?_)
    rintro v A1 H1 - ⟨rfl, rfl, rfl⟩
    refine WP.tell 1 rfl sl_pos fun hp1 => ?_
    unfold slotV
    by_cases h0 : rf U k = 0
    · rw [if_pos h0]
      refine go ?_
      refine loopQ_n (U, l', some (wb, 0), wc) (by simp) LeE.go ((aA_shut (p1 := p1) (c1 := c1) (p2 := p2) (c2 := c2)).frame _) ⟨rfl, fun T hT => hrun T (by rw [List.reverse_append]; exact .dead k _ U T h0 hT), hto, by simp; omega, hUl⟩
    obtain ⟨x, hx, hrx, q1, q2⟩ := rf_at h0
    obtain ⟨b, rfl⟩ := hp1 (by omega)
    have htd := total_dec U k h0
    have hrl := rf_le_total U k
    have hcell := slot_cell hx q1
    have hdl : (dec U k).length = U.length := length_upd _ _ _
    rw [if_neg h0]
    unfold aH
    refine WP.open 1 rfl (by omega) fun b' hb' hln => ?_
    cases hb'
    have hsp := slots_upd hx (· - 1) (z := (x.2 : Int) - 1) (by omega)
    have hx2 : at? (dec U k) k = some (x.1, x.2 - 1) := by
      show at? (upd _ U k) k = _
      rw [at_upd, if_pos rfl, hx]; rfl
    have hc2' := slot_cell hx2 q1
    have hrd : rf (dec U k) k = rf U k - 1 := by rw [rf_dec, if_pos rfl]
    refine go ?_
    apply WP.store; exact rfl; exact rfl; exact rfl; exact Wr.slb 1 rfl (by simp only [AV.cells]; rw [hln]; simp; omega) rfl
    show WP _ _ _ _ [pts a ⟨[.int .i64 most, .slice (some (b, 0)) U.length c1, .slice p2 (freeOf U).length c2], .own⟩, slb b c1 26 U.length (splice (U.flatMap slotC) (0 + (k - 1).toNat * 26 + 25) [.int .i64 ((x.2 : Int) - 1)]), sl p2 c2 1 (freeOf U).length ((freeOf U).map (AV.int .i64)), sl (some (wb, 0)) wc 1 l'.length (l'.map (AV.int .i64))] _
    rw [hsp]
    show WP _ _ _ _ [pts a ⟨[.int .i64 most, .slice (some (b, 0)) U.length c1, .slice p2 (freeOf U).length c2], .own⟩, slb b c1 26 U.length ((dec U k).flatMap slotC), sl p2 c2 1 (freeOf U).length ((freeOf U).map (AV.int .i64)), sl (some (wb, 0)) wc 1 l'.length (l'.map (AV.int .i64))] _
    by_cases hr1 : rf U k = 1
    · have hx1 : x.2 = 1 := by omega
      rw [hx1] at hc2' hx2
      have hk8 := x.1.hk
      have hkt := kids_take hx2 q1
      refine go ?_
      apply WP.loads; exact rfl; exact Rds.slb 1 rfl (by rw [flat_length slotC_len, hdl]; show 0 + (k - 1).toNat * 26 + 0 + 1 + 8 ≤ _; omega) hkt
      refine go ?_
      -- the node's parts wait, too
      refine WP.loop (σ := Nat × Option (Nat × Nat) × Cap) (fun s => 8 - s.1) (fun s => [(0, .ptr (some (a, 0))), (6, .int .i64 k), (53, .agg (x.1.kids.map (AV.int .i64))), (54, .int .i64 s.1), (5, .slice s.2.1 (l' ++ (x.1.kids.take s.1).filter (fun x => x != 0)).length s.2.2)])
        (fun s => [pts a ⟨[.int .i64 most, .slice (some (b, 0)) U.length c1, .slice p2 (freeOf U).length c2], .own⟩, slb b c1 26 U.length ((dec U k).flatMap slotC), sl p2 c2 1 (freeOf U).length ((freeOf U).map (AV.int .i64)), sl s.2.1 s.2.2 1 (l' ++ (x.1.kids.take s.1).filter (fun x => x != 0)).length ((l' ++ (x.1.kids.take s.1).filter (fun x => x != 0)).map (AV.int .i64))])
        (fun s A' => s.1 ≤ 8 ∧ A' = A1) (0, some (wb, 0), wc) LeE.go (A' := A1) (by simp only [List.take_zero, List.filter_nil, List.append_nil]; exact Ent.refl _ _) ⟨by omega, rfl⟩ ?_
      rintro ⟨i, vp, vc⟩ A3 ⟨hi, rfl⟩
      simp only at hi ⊢
      unfold s18_l0
      have hfk := List.length_filter_le (fun x => x != 0) (x.1.kids.take i)
      rw [List.length_take] at hfk
      refine go ?_
      refine WP.cond rfl (fun hb => ?_) (fun hb => ?_)
      · have hlt : i < 8 := by simp at hb; omega
        have hxk := List.getElem?_eq_getElem (l := x.1.kids) (i := i) (by omega)
        generalize x.1.kids[i]'(by omega) = y at hxk
        have hpa : partA (((i : Nat) : Int).toNat * 1) none (x.1.kids.map (AV.int .i64)) = some (.int .i64 y) := by simp [partA, hxk]
        have htk : x.1.kids.take (i + 1) = x.1.kids.take i ++ [y] := by rw [List.take_add_one, hxk]; rfl
        by_cases hy0 : y = 0
        · have e : (x.1.kids.take (i + 1)).filter (fun x => x != 0) = (x.1.kids.take i).filter (fun x => x != 0) := by rw [htk, List.filter_append]; simp [hy0]
          refine go ?_
          refine loopQ_n (i + 1, vp, vc) (by simp; omega) ?_ ?_ ⟨by simp; omega, rfl⟩
          · simp only [e]; exact LeE.go
          · simp only [e]; exact Ent.refl _ _
        · have e : (x.1.kids.take (i + 1)).filter (fun x => x != 0) = (x.1.kids.take i).filter (fun x => x != 0) ++ [y] := by rw [htk, List.filter_append]; simp [hy0]
          refine go ?_
          apply WP.buildSlice (cs := [.int .i64 y]); exact rfl; exact rfl; intro b3
          apply WP.append 3; exact rfl; exact rfl; exact rfl; exact Src.pts 4 rfl rfl rfl rfl; exact ⟨by simp [maxLenB]; omega, by simp [maxLenB]; omega⟩
          intro vp' vc'
          refine go ?_
          refine loopQ_n (i + 1, vp', vc') (by simp; omega) ?_ ?_ ⟨by simp; omega, rfl⟩
          · simp only [e, ← List.append_assoc, List.length_append, List.length_singleton]
            exact LeE.go
          · simp only [e, ← List.append_assoc, List.length_append, List.length_singleton, List.map_append, List.map_cons, List.map_nil]
            exact Ent.take 4
      · have hlt : i = 8 := by simp at hb; omega
        subst hlt
        rw [List.take_of_length_le (by omega)] at hfk ⊢
        generalize hws : l' ++ x.1.kids.filter (fun x => x != 0) = ws at *
        have hwl : ws.length ≤ l'.length + 8 := by rw [← hws, List.length_append]; omega
        have hfl := freeOf_length U
        refine go ?_
        refine WP.ent (Ent.perm (Hs' := [pts a ⟨[.int .i64 most, .slice (some (b, 0)) U.length c1, .slice p2 (freeOf U).length c2], .own⟩, sl p2 c2 1 (freeOf U).length ((freeOf U).map (AV.int .i64))] ++ [slb b c1 26 U.length ((dec U k).flatMap slotC), sl vp vc 1 ws.length (ws.map (AV.int .i64))]) ((List.Perm.swap _ _ _).cons _)) ?_
        refine WP.opd (OpOk.call rfl rfl (gone_d hc2 (freeOf_desc U) (fun y hy => by have := mem_freeOf.1 hy; omega) (by omega) (by omega)) (R := [slb b c1 26 U.length ((dec U k).flatMap slotC), sl vp vc 1 ws.length (ws.map (AV.int .i64))]) rfl ?_)
        rintro v A2 H1 - ⟨rfl, rfl, c, p', hspot, rfl⟩
        have hfree := aH_gone hr1 hspot
        have hfl2 : (freeOf (dec U k)).length = (freeOf U).length + 1 := by rw [hfree]; have := hspot.1; simp; omega
        refine go ?_
        refine loopQ_n (dec U k, ws, vp, vc) (by simp; omega) LeE.go (A' := A2) ?_ ⟨rfl, fun T hT => hrun T ?_, by simp; omega, by simp; omega, by simp; omega⟩
        · have := Ent.frame (aA_shut (A := A2) (a := a) (most := most) (S := dec U k) (p1 := some (b, 0)) (c1 := c1) (p2 := p') (c2 := .more 1) (.inr rfl)) [sl vp vc 1 ws.length (ws.map (AV.int .i64))]
          unfold aH at this
          rw [hdl, hfl2, hfree] at this
          refine Ent.trans (Ent.perm ((List.Perm.swap _ _ _).cons _)) (Ent.trans (Ent.at 1 rfl slb_sl) this)
        · rw [List.reverse_append]
          refine .last k _ U T hr1 ?_
          have hkids : kidsOf U k = x.1.kids := by unfold kidsOf; rw [hx]; rfl
          rw [hkids]
          refine Runs.filter _ _ (Runs.perm _ _ (Nat.le_refl _) ?_ hT)
          rw [← hws, List.reverse_append]
          exact (List.reverse_perm _).append_right _
    · obtain ⟨y, hy⟩ : ∃ y, x.2 = y + 2 := ⟨x.2 - 2, by omega⟩
      rw [show x.2 - 1 = y + 1 by omega] at hc2'
      refine go ?_
      refine loopQ_n (dec U k, l', some (wb, 0), wc) (by simp; omega) LeE.go ?_ ⟨rfl, fun T hT => hrun T ?_, by simp; omega, by simp; omega, by simp; omega⟩
      · have := Ent.frame (aA_shut (A := A1) (a := a) (most := most) (S := dec U k) (p1 := some (b, 0)) (c1 := c1) (p2 := p2) (c2 := c2)) [sl (some (wb, 0)) wc 1 l'.length (l'.map (AV.int .i64))]
        unfold aH at this
        rw [hdl, show freeOf (dec U k) = freeOf U from upd_free h0 (by show rf U k - 1 ≠ 0; omega)] at this
        exact (Ent.at 1 rfl slb_sl).trans this
      · rw [List.reverse_append]
        exact .more k _ U T (by omega) hT
  · have : l = [] := by simpa using hb
    subst this
    refine go ?_
    exact retQ_r rfl (Ent.take 1) ⟨rfl, .inr ⟨h0, rfl, U, hrun U (.nil _), rfl⟩⟩
end
end Go.Proofs.Ytchffjnmkpedkaa
