/-
  The arena's law: nodes of acts; whether two arenas are the same. Own work of this session.
-/
import Derived.Test.YtchffjnmkpedkaaMe
set_option linter.unusedSectionVars false
set_option linter.unusedSimpArgs false
set_option linter.unusedVariables false
namespace Go.Proofs.Ytchffjnmkpedkaa
set_option linter.unusedSectionVars false
set_option linter.unusedSimpArgs false
set_option linter.unusedVariables false
open Go.Lite Go.RowKit Go.Lite.Arena Go.Lite.Sep Go.Lite.Sep.Asn
set_option maxHeartbeats 400000
set_option maxRecDepth 10000

theorem F2_same : F2 27 = some (.text s27) := rfl
section
variable {A : Per} {Hs : List Asn} {a r : Nat} {most : Int} {S : St} {p1 p2 : Option (Nat × Nat)} {c1 c2 : Cap}

theorem given_d (m : Nd) : Does F2 16 [.agg (nodeC m)] A [] fun v A' H' => A' = A ∧ v = .agg (nodeC m) ∧ H' = [] := by
  refine Does.fn F2_given ?_
  have hml := nodeC_len m
  have e1 : (nodeC m)[0 + 0]? = some (.bool m.leaf) := rfl
  have e2 : ((nodeC m).drop (0 + 1)).take 8 = m.kids.map (AV.int .i64) := nodeC_kids m
  have e3 : ((nodeC m).drop (0 + 9)).take 16 = m.vals.flatMap entC := nodeC_vals m
  have l2 : 0 + 1 + 8 ≤ (nodeC m).length := by rw [hml]; omega
  have l3 : 0 + 9 + 16 ≤ (nodeC m).length := by rw [hml]; omega
  refine go ?_
  apply WP.box; exact rfl; exact nodeC_one m; intro b
  apply WP.new; intro n
  show WP _ _ _ _ [pts b ⟨nodeC m, .own⟩, pts n ⟨zN, .own⟩] _
  refine go ?_
  apply WP.buildv; exact rfl; exact given_fill m
  apply WP.store; exact rfl; exact rfl; exact hml; exact Wr.pts 1 rfl rfl (by simp) (by simp [AV.cells, hml, zN]) (nodeC_one _)
  simp only [AV.cells]
  rw [splice_all _ _ (by rw [hml]; rfl)]
  refine go ?_
  exact retQ_x (.cs rfl (Rds.pts (vs := nodeC m) 1 rfl rfl (by rw [hml]; simp) (by rw [List.drop_zero, List.take_of_length_le (by omega)])) .nil) (Ent.take 0) ⟨rfl, rfl, rfl⟩

theorem node_d (x : ActV) : Does F2 17 [.agg (actC x)] A [] fun v A' H' => A' = A ∧ v = .agg (nodeC (actNd x)) ∧ H' = [] := by
  refine Does.fn F2_node ?_
  have hml := nodeC_len (actNd x)
  have hm0 := nodeC_len (actN0 x)
  have hal := actC_len x
  have e1 : (actC x)[0 + 2]? = some (.bool x.leaf) := rfl
  have e2 : ((actC x).drop (0 + 3)).take 8 = x.kids.map (AV.int .i64) := actC_kids x
  have e3 : (actC x)[0 + 11]? = some (.int .i64 x.val) := actC_val x
  have l2 : 0 + 3 + 8 ≤ (actC x).length := by rw [hal]; omega
  have h3 : binA .eql (.int .i64 (x.val.tmod 2)) (.int .i64 0) = some (.bool (x.val.tmod 2 == 0)) := rfl
  refine go ?_
  apply WP.box; exact rfl; exact actC_one x; intro b
  apply WP.new; intro n
  show WP _ _ _ _ [pts b ⟨actC x, .own⟩, pts n ⟨zN, .own⟩] _
  refine go ?_
  apply WP.buildv; exact rfl; exact actN0_fill x
  apply WP.new; intro n2
  show WP _ _ _ _ [pts b ⟨actC x, .own⟩, pts n ⟨zN, .own⟩, pts n2 ⟨zN, .own⟩] _
  apply WP.store; exact rfl; exact rfl; exact hm0; exact Wr.pts 2 rfl rfl (by simp) (by simp [AV.cells, hm0, zN]) (nodeC_one _)
  simp only [AV.cells]
  rw [splice_all _ _ (by rw [hm0]; rfl)]
  refine go ?_
  apply WP.store; exact rfl; exact rfl; exact rfl; exact Wr.pts 2 rfl rfl (by simp) (by show 0 + 9 + 0 * 2 + 2 ≤ _; rw [hm0]; omega) rfl
  have hs : splice (nodeC (actN0 x)) (0 + 9 + (0 : Int).toNat * 2) [.int .i64 x.val, .bool (x.val.tmod 2 == 0)] = nodeC (actNd x) := actNd_splice x
  show WP _ _ _ _ [pts b ⟨actC x, .own⟩, pts n ⟨zN, .own⟩, pts n2 ⟨splice (nodeC (actN0 x)) (0 + 9 + (0 : Int).toNat * 2) [.int .i64 x.val, .bool (x.val.tmod 2 == 0)], .own⟩] _
  rw [hs]
  refine go ?_
  apply WP.loads; exact rfl; exact Rds.pts (vs := nodeC (actNd x)) 2 rfl rfl (by rw [hml]; simp) (by rw [List.drop_zero, List.take_of_length_le (by omega)])
  apply WP.store; exact rfl; exact rfl; exact hml; exact Wr.pts 1 rfl rfl (by simp) (by simp [AV.cells, hml, zN]) (nodeC_one _)
  simp only [AV.cells]
  rw [show splice zN 0 (nodeC (actNd x)) = nodeC (actNd x) from splice_all _ _ (by rw [hml]; rfl)]
  refine go ?_
  exact retQ_x (.cs rfl (Rds.pts (vs := nodeC (actNd x)) 1 rfl rfl (by rw [hml]; simp) (by rw [List.drop_zero, List.take_of_length_le (by omega)])) .nil) (Ent.take 0) ⟨rfl, rfl, rfl⟩

theorem cnts_high {S : St} : (cnts S)[S.length + 1]? = none := by rw [List.getElem?_eq_none (by rw [cnts_len]; omega)]
theorem node_at {ns : List Nd} {i o n : Nat} {m : Nd} (hn : ns[i]? = some m) (ho : o + n ≤ 25) : ((ns.flatMap nodeC).drop (0 + i * 25 + o)).take n = ((nodeC m).drop o).take n := by
  rw [show 0 + i * 25 + o = i * 25 + o by omega]
  exact flat_cells nodeC_len _ i o n m hn ho

/-- Two arenas that are the same. -/
theorem same_d (hlen : S.length < 100000) : Does F2 27 [.ptr (some (a, 0)), .ptr (some (r, 0))] A [aA a most S, rA r most S] fun v A' H' => A' = A ∧ v = .bool true ∧ H' = [aA a most S, rA r most S] := by
  refine Does.fn F2_same ?_
  refine WP.unex 0 rfl fun q => WP.unstarAt 0 rfl ?_
  obtain ⟨⟨p1, c1, p2, c2⟩, hc2⟩ := q
  replace hc2 : CapF c2 := hc2
  refine WP.unex 0 rfl fun q => WP.unstarAt 0 rfl ?_
  obtain ⟨p3, c3, p4, c4⟩ := q
  have shut : Ent A (aH a most S p1 c1 p2 c2 ++ rH r most S p3 c3 p4 c4) A [aA a most S, rA r most S] := (Ent.frame aA_shut _).trans (Ent.frameL [aA a most S] rA_shut)
  show WP _ _ _ _ (aH a most S p1 c1 p2 c2 ++ rH r most S p3 c3 p4 c4) _
  have huc := used_count S
  have hfl := freeOf_length S
  have sw : ∀ {X Y : List Asn}, Ent A (X ++ Y) A (Y ++ X) := fun {X Y} => Ent.perm List.perm_append_comm
  refine go ?_
  refine god ?_
  refine WD.loud rfl (OpOk.call rfl rfl (aUsed (by omega)) (R := rH r most S p3 c3 p4 c4) rfl ?_)
  rintro v A1 H1 - ⟨rfl, rfl, rfl⟩
  refine god ?_
  refine WD.loud rfl (OpOk.ent sw (OpOk.call rfl rfl (rUsed (by omega)) (R := aH a most S p1 c1 p2 c2) rfl ?_))
  rintro v A2 H1 - ⟨rfl, rfl, rfl⟩
  rw [huc]
  refine god ?_
  refine WD.loud rfl (OpOk.ent sw (OpOk.call rfl rfl aCap (R := rH r most S p3 c3 p4 c4) rfl ?_))
  rintro v A1 H1 - ⟨rfl, rfl, rfl⟩
  refine god ?_
  refine WD.nil RdsOk.go ?_
  refine go ?_
  refine WP.loop (σ := Nat) (fun j => S.length + 3 - j) (fun j => [(0, .ptr (some (a, 0))), (1, .ptr (some (r, 0))), (5, .int .i64 ((j : Int) - 1))]) (fun _ => aH a most S p1 c1 p2 c2 ++ rH r most S p3 c3 p4 c4) (fun j A' => j ≤ S.length + 3 ∧ A' = A1) 0 LeE.go (Ent.refl _ _) ⟨by omega, rfl⟩ ?_
  rintro j A2 ⟨hj, rfl⟩
  unfold s27_l0
  refine go ?_
  refine WP.cond rfl (fun hb => ?_) (fun hb => ?_)
  · have hlt : j < S.length + 3 := by simp at hb; omega
    refine go ?_
    refine WP.opd (OpOk.call rfl rfl (aAt (by omega) ((j : Int) - 1)) (R := rH r most S p3 c3 p4 c4) rfl ?_)
    rintro v A1 H1 - ⟨rfl, rfl, hv⟩
    rcases hv with ⟨h0, rfl⟩ | ⟨x, hx, h0, rfl⟩
    · refine go ?_
      apply WP.new; intro n
      show WP _ _ _ _ (aH a most S p1 c1 p2 c2 ++ rH r most S p3 c3 p4 c4 ++ [pts n ⟨zN, .own⟩]) _
      apply WP.store; exact rfl; exact rfl; exact rfl; exact Wr.pts 6 rfl rfl (by simp) (by simp [AV.cells, zN]) rfl
      show WP _ _ _ _ (aH a most S p1 c1 p2 c2 ++ (rH r most S p3 c3 p4 c4 ++ [pts n ⟨zN, .own⟩])) _
      refine go ?_
      refine WP.opd (OpOk.ent sw (OpOk.call rfl rfl (rIs ((j : Int) - 1)) (R := [pts n ⟨zN, .own⟩] ++ aH a most S p1 c1 p2 c2) rfl ?_))
      rintro v A1 H1 - ⟨rfl, rfl, rfl⟩
      have e : (rf S ((j : Int) - 1) != 0) = false := by simp [h0]
      rw [e]
      refine go ?_
      refine WP.ent (sw (X := rH r most S p3 c3 p4 c4 ++ [pts n ⟨zN, .own⟩]) (Y := aH a most S p1 c1 p2 c2)) ?_
      refine WP.opd (OpOk.call (H1 := aH a most S p1 c1 p2 c2) rfl rfl (aRefs (by omega) ((j : Int) - 1)) (R := rH r most S p3 c3 p4 c4 ++ [pts n ⟨zN, .own⟩]) rfl ?_)
      rintro v A1 H1 - ⟨rfl, rfl, rfl⟩
      rw [h0]
      refine go ?_
      exact loopQ_n (j + 1) (by omega) LeE.go (Ent.take 6) ⟨by omega, rfl⟩
    · obtain ⟨y, hy, hry, g1, g2⟩ := rf_at h0
      rw [hx] at hy
      cases hy
      have hml := nodeC_len x.1
      refine go ?_
      apply WP.new; intro n
      show WP _ _ _ _ (aH a most S p1 c1 p2 c2 ++ rH r most S p3 c3 p4 c4 ++ [pts n ⟨zN, .own⟩]) _
      apply WP.store; exact rfl; exact rfl; exact hml; exact Wr.pts 6 rfl rfl (by simp) (by simp [AV.cells, hml, zN]) (nodeC_one _)
      simp only [AV.cells]
      rw [show splice zN 0 (nodeC x.1) = nodeC x.1 from splice_all _ _ (by rw [hml]; rfl)]
      show WP _ _ _ _ (aH a most S p1 c1 p2 c2 ++ (rH r most S p3 c3 p4 c4 ++ [pts n ⟨nodeC x.1, .own⟩])) _
      refine go ?_
      refine WP.opd (OpOk.ent sw (OpOk.call rfl rfl (rIs ((j : Int) - 1)) (R := [pts n ⟨nodeC x.1, .own⟩] ++ aH a most S p1 c1 p2 c2) rfl ?_))
      rintro v A1 H1 - ⟨rfl, rfl, rfl⟩
      have e : (rf S ((j : Int) - 1) != 0) = true := by simp [h0]
      rw [e]
      refine WP.ent (sw (X := rH r most S p3 c3 p4 c4 ++ [pts n ⟨nodeC x.1, .own⟩]) (Y := aH a most S p1 c1 p2 c2)) ?_
      have hn := nods_get hx
      have hcg := cnts_get S ((j : Int) - 1) (by omega) (by omega)
      show WP _ _ _ _ (aH a most S p1 c1 p2 c2 ++ [pts r ⟨[.int .i64 most, .slice p3 (S.length + 1) c3, .slice p4 (S.length + 1) c4], .own⟩, sl p3 c3 25 (S.length + 1) ((nods S).flatMap nodeC), sl p4 c4 1 (S.length + 1) ((cnts S).map (AV.int .i64)), pts n ⟨nodeC x.1, .own⟩]) _
      refine WP.open 4 rfl (by omega) fun b1 hb1 hln1 => ?_
      refine WP.open (p := p4) 5 rfl (by omega) fun b2 hb2 hln2 => ?_
      subst hb1 hb2
      show WP _ _ _ _ (aH a most S p1 c1 p2 c2 ++ [pts r ⟨[.int .i64 most, .slice (some (b1, 0)) (S.length + 1) c3, .slice (some (b2, 0)) (S.length + 1) c4], .own⟩, slb b1 c3 25 (S.length + 1) ((nods S).flatMap nodeC), slb b2 c4 1 (S.length + 1) ((cnts S).map (AV.int .i64)), pts n ⟨nodeC x.1, .own⟩]) _
      have k1 : ((cnts S).map (AV.int .i64))[0 + ((j : Int) - 1).toNat * 1]? = some (.int .i64 (rf S ((j : Int) - 1))) := by rw [show 0 + ((j : Int) - 1).toNat * 1 = ((j : Int) - 1).toNat by omega, List.getElem?_map, hcg]; rfl
      have k2 : (nodeC x.1)[0 + 0]? = some (.bool x.1.leaf) := rfl
      have k3 : ((nods S).flatMap nodeC)[0 + ((j : Int) - 1).toNat * 25 + 0]? = some (.bool x.1.leaf) := by
        rw [show 0 + ((j : Int) - 1).toNat * 25 + 0 = ((j : Int) - 1).toNat * 25 + 0 by omega, flat_get nodeC_len _ _ 0 (by omega), hn]; rfl
      have k4 : ((nodeC x.1).drop (0 + 1)).take 8 = x.1.kids.map (AV.int .i64) := nodeC_kids _
      have k5 : (((nods S).flatMap nodeC).drop (0 + ((j : Int) - 1).toNat * 25 + 1)).take 8 = x.1.kids.map (AV.int .i64) := by rw [node_at hn (by omega)]; exact nodeC_kids _
      have k6 : ((nodeC x.1).drop (0 + 9)).take 16 = x.1.vals.flatMap entC := nodeC_vals _
      have k7 : (((nods S).flatMap nodeC).drop (0 + ((j : Int) - 1).toNat * 25 + 9)).take 16 = x.1.vals.flatMap entC := by rw [node_at hn (by omega)]; exact nodeC_vals _
      have l4 : 0 + 1 + 8 ≤ (nodeC x.1).length := by rw [hml]; omega
      have l6 : 0 + 9 + 16 ≤ (nodeC x.1).length := by rw [hml]; omega
      have l5 : 0 + ((j : Int) - 1).toNat * 25 + 1 + 8 ≤ ((nods S).flatMap nodeC).length := by rw [hln1]; omega
      have l7 : 0 + ((j : Int) - 1).toNat * 25 + 9 + 16 ≤ ((nods S).flatMap nodeC).length := by rw [hln1]; omega
      have q1 : eqA .bool (.bool x.1.leaf) (.bool x.1.leaf) = some true := by simp [eqA]
      have q2 := kids_eq x.1
      have q3 := vals_eq x.1
      refine go ?_
      refine god ?_
      refine WD.loud rfl (OpOk.call (H1 := aH a most S p1 c1 p2 c2) rfl rfl (aRefs (by omega) ((j : Int) - 1)) (R := [pts r ⟨[.int .i64 most, .slice (some (b1, 0)) (S.length + 1) c3, .slice (some (b2, 0)) (S.length + 1) c4], .own⟩, slb b1 c3 25 (S.length + 1) ((nods S).flatMap nodeC), slb b2 c4 1 (S.length + 1) ((cnts S).map (AV.int .i64)), pts n ⟨nodeC x.1, .own⟩]) rfl ?_)
      rintro v A1 H1 - ⟨rfl, rfl, rfl⟩
      refine god ?_
      have z1 : AV.beq (.agg (x.1.kids.map (AV.int .i64))) (.agg (x.1.kids.map (AV.int .i64))) = true := AV.beq_agg fun v hv => by
        obtain ⟨y, _, rfl⟩ := List.mem_map.1 hv; simp [AV.beq]
      have z2 : AV.beq (.agg (x.1.vals.flatMap entC)) (.agg (x.1.vals.flatMap entC)) = true := AV.beq_agg fun v hv => by
        obtain ⟨y, _, hy⟩ := List.mem_flatMap.1 hv
        simp only [entC, List.mem_cons, List.not_mem_nil, or_false] at hy
        rcases hy with rfl | rfl <;> simp [AV.beq]
      refine WD.nil RdsOk.go ?_
      refine go ?_
      exact loopQ_n (j + 1) (by omega) LeE.go ((Ent.take 6).trans ((Ent.at 4 rfl slb_sl).trans (Ent.at 5 rfl slb_sl))) ⟨by omega, rfl⟩
  · refine go ?_
    exact retQ_r rfl shut ⟨rfl, rfl, rfl⟩
end
end Go.Proofs.Ytchffjnmkpedkaa
