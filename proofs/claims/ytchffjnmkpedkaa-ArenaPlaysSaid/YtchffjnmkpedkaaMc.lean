/-
  The arena, by what is owned: Make. Own work of this session.
-/
import Derived.Test.YtchffjnmkpedkaaMb
set_option linter.unusedSectionVars false
set_option linter.unusedSimpArgs false
set_option linter.unusedVariables false
namespace Go.Proofs.Ytchffjnmkpedkaa
set_option linter.unusedSectionVars false
set_option linter.unusedSimpArgs false
set_option linter.unusedVariables false
open Go.Lite Go.RowKit Go.Lite.Arena Go.Lite.Sep Go.Lite.Sep.Asn
set_option maxHeartbeats 800000
set_option maxRecDepth 10000

section
variable {A : Per} {Hs : List Asn} {a : Nat} {most : Int} {S : St} {p1 p2 : Option (Nat × Nat)} {c1 c2 : Cap}

theorem aH_upd {g : Nat → Nat} {id z : Int} {b : Nat} (h : rf S id ≠ 0) (hg : g (rf S id) ≠ 0) (hz : z = (g (rf S id) : Nat)) : Ent A [pts a ⟨[.int .i64 most, .slice (some (b, 0)) S.length c1, .slice p2 (freeOf S).length c2], .own⟩, slb b c1 26 S.length (splice (S.flatMap slotC) (0 + (id - 1).toNat * 26 + 25) [.int .i64 z]), sl p2 c2 1 (freeOf S).length ((freeOf S).map (AV.int .i64))] A (aH a most (upd g S id) (some (b, 0)) c1 p2 c2) := by
  obtain ⟨x, hx, hrx, h1, h2⟩ := rf_at h
  rw [slots_upd hx g (by rw [hrx]; exact hz)]
  unfold aH
  rw [length_upd, upd_free h hg]
  exact Ent.at 1 rfl slb_sl

theorem sl_pos {p : Option (Nat × Nat)} {cap : Cap} {e n : Nat} {cs : List AV} (D : List Nat) (h : Hp) (hp : (sl p cap e n cs).p D h) : 0 < n → ∃ b, p = some (b, 0) := by
  intro hn
  rcases hp with ⟨_, _, e0, _⟩ | ⟨b, e1, _⟩
  · omega
  · exact ⟨b, e1⟩

theorem place_new {i : Nat} {T : St} {fl : List Int} {m : Nd} (hp : Place S i T fl) (hi : i < T.length) : NewAt S ((i : Int) + 1) m (T.set i (m, 1)) ∧ freeOf (T.set i (m, 1)) = fl := by
  rcases hp with ⟨h1, rfl, rfl, rfl⟩ | ⟨rfl, h⟩
  · have e : (S ++ [(zNd, 0)]).set S.length (m, 1) = S ++ [(m, 1)] := by rw [List.set_append_right _ _ (Nat.le_refl _)]; simp
    rw [e]
    exact ⟨.inl ⟨h1, rfl, rfl⟩, freeOf_push S m h1⟩
  · have hm : (i : Int) + 1 ∈ freeOf T := by rw [h]; simp
    have hmin : ∀ x ∈ freeOf T, (i : Int) + 1 ≤ x := freeOf_last (m := fl.length) (by rw [h]; simp) (by rw [h]; simp)
    have e : ((i : Int) + 1 - 1).toNat = i := by omega
    have := freeOf_fill T m hm hmin
    rw [e] at this
    refine ⟨.inr ⟨hm, hmin, by rw [e]⟩, ?_⟩
    rw [h] at this
    exact (List.append_inj_left' this rfl).symm

theorem aMake (hlen : S.length + 1 < 1000000) (htot : total S + 10 < 1000000000) (nd : Nd) : Does F2 15 [.ptr (some (a, 0)), .agg (nodeC nd)] A [aA a most S] fun v A' H' => A' = A ∧ MakeQ S (norm nd) (fun S => [aA a most S]) most v H' := by
  refine Does.aA fun p1 c1 p2 c2 hc2 => Does.fn F2_make ?_
  have hone := nodeC_one nd
  have hfl := freeOf_length S
  refine WP.tell 1 rfl sl_pos fun hp1 => ?_
  refine go ?_
  apply WP.box; exact rfl; exact hone; intro n
  refine go ?_
  refine WP.mid (fun L A' Hs' => LeE [(0, .ptr (some (a, 0))), (3, .ptr (some (n, 0)))] L ∧ A' = A ∧ Hs' = aH a most S p1 c1 p2 c2 ++ [pts n ⟨nodeC (norm nd), .own⟩]) ?_ ?_
  · cases hleaf : nd.leaf with
    | true =>
      have hc : (nodeC nd)[0 + 0]? = some (.bool true) := by rw [← hleaf]; rfl
      have he := norm_leaf nd hleaf
      refine go ?_
      apply WP.store; exact rfl; exact rfl; exact rfl; exact Wr.pts 3 rfl rfl (by simp) (by show _ ≤ (nodeC nd).length; rw [nodeC_len]; simp [AV.cells]) rfl
      simp only [AV.cells]
      rw [show (0 : Nat) + 1 = 1 from rfl, he]
      refine go ?_
      exact midQ_n ⟨LeE.go, rfl, rfl⟩
    | false =>
      have hc : (nodeC nd)[0 + 0]? = some (.bool false) := by rw [← hleaf]; rfl
      have he := norm_node nd hleaf
      refine go ?_
      apply WP.store; exact rfl; exact rfl; exact rfl; exact Wr.pts 3 rfl rfl (by simp) (by show _ ≤ (nodeC nd).length; rw [nodeC_len]; simp [AV.cells]) rfl
      simp only [AV.cells]
      rw [show (0 : Nat) + 9 = 9 from rfl, he]
      refine go ?_
      exact midQ_n ⟨LeE.go, rfl, rfl⟩
  rintro L A1 _ ⟨hL, rfl, rfl⟩
  refine WP.weak hL ?_
  generalize hmm : norm nd = m
  have hk8 := m.hk
  have hml := nodeC_len m
  have hks := nodeC_kids m
  refine go ?_
  apply WP.loads; exact rfl; exact Rds.pts 3 rfl rfl (by rw [hml]; simp) hks
  refine go ?_
  refine WP.loop (σ := Nat) (fun i => 8 - i) (fun i => [(0, .ptr (some (a, 0))), (3, .ptr (some (n, 0))), (21, .agg (m.kids.map (AV.int .i64))), (22, .int .i64 i)]) (fun _ => aH a most S p1 c1 p2 c2 ++ [pts n ⟨nodeC m, .own⟩]) (fun i A' => i ≤ 8 ∧ A' = A1 ∧ (m.kids.take i).all (kidOk S) = true) 0 LeE.go (Ent.refl _ _) ⟨by omega, rfl, rfl⟩ ?_
  rintro i A2 ⟨hi, rfl, hall⟩
  unfold s15_l0
  refine go ?_
  refine WP.cond rfl (fun hb => ?_) (fun hb => ?_)
  · have hlt : i < 8 := by simp at hb; omega
    have hx := List.getElem?_eq_getElem (l := m.kids) (i := i) (by omega)
    generalize m.kids[i]'(by omega) = k at hx
    have hpa : partA (((i : Nat) : Int).toNat * 1) none (m.kids.map (AV.int .i64)) = some (.int .i64 k) := by simp [partA, hx]
    have htk : m.kids.take (i + 1) = m.kids.take i ++ [k] := by rw [List.take_add_one, hx]; rfl
    have next : kidOk S k = true → (m.kids.take (i + 1)).all (kidOk S) = true := fun hk => by rw [htk, List.all_append, hall]; simp [hk]
    by_cases hk0 : k = 0
    · refine go ?_
      exact loopQ_n (i + 1) (by omega) LeE.go (Ent.refl _ _) ⟨by omega, rfl, next (by simp [kidOk, hk0])⟩
    · refine go ?_
      refine WP.opd (OpOk.call rfl rfl (slot_d (by omega) k) (R := [pts n ⟨nodeC m, .own⟩]) rfl ?_)
      rintro v A1 H1 - ⟨rfl, rfl, rfl⟩
      unfold slotV
      by_cases h0 : rf S k = 0
      · rw [if_pos h0]
        refine go ?_
        refine retQ_r rfl (Hs' := [aA a most S]) ((Ent.take 3).trans (aA_shut (p1 := p1) (c1 := c1) (p2 := p2) (c2 := c2))) ⟨rfl, .inl ⟨?_, rfl, rfl⟩⟩
        refine List.all_eq_false.2 ⟨k, List.mem_of_getElem? hx, ?_⟩
        simp [kidOk, h0, hk0]
      · obtain ⟨_, _, _, q1, q2⟩ := rf_at h0
        obtain ⟨b, hb1⟩ := hp1 (by omega)
        rw [if_neg h0]
        subst hb1
        refine go ?_
        exact loopQ_n (i + 1) (by omega) LeE.go (Ent.refl _ _) ⟨by omega, rfl, next (by simp [kidOk, h0])⟩
  · have hlt : i = 8 := by simp at hb; omega
    subst hlt
    rw [List.take_of_length_le (by omega)] at hall
    refine go ?_
    refine god ?_
    refine WD.loud rfl (OpOk.call rfl rfl (aUsed (by omega)) (R := [pts n ⟨nodeC m, .own⟩]) rfl ?_)
    rintro v A1 H2 - ⟨rfl, rfl, rfl⟩
    show WD _ _ _ _ _ _ _ ([pts a ⟨[.int .i64 most, .slice p1 S.length c1, .slice p2 (freeOf S).length c2], .own⟩, sl p1 c1 26 S.length (S.flatMap slotC), sl p2 c2 1 (freeOf S).length ((freeOf S).map (AV.int .i64))] ++ [pts n ⟨nodeC m, .own⟩]) _
    by_cases hm : most ≤ (S.length : Int) - (freeOf S).length
    · refine god ?_
      refine WD.nil RdsOk.go ?_
      refine go ?_
      exact retQ_r rfl ((Ent.take 3).trans (aA_shut (p1 := p1) (c1 := c1) (p2 := p2) (c2 := c2))) ⟨rfl, .inr (.inl ⟨hall, hm, rfl, rfl⟩)⟩
    · refine god ?_
      refine WD.nil RdsOk.go ?_
      refine go ?_
      refine WP.opd (OpOk.call rfl rfl (place_d (by omega)) (R := [pts n ⟨nodeC m, .own⟩]) rfl ?_)
      rintro v A1 H2 - ⟨rfl, j, T, fl, q1, d1, rfl, hj, hpl, hTl, rfl⟩
      obtain ⟨hnew, hfr⟩ := place_new (m := m) hpl hj
      refine go ?_
      refine WP.open 1 rfl (by omega) fun b hb hln => ?_
      subst hb
      refine god ?_
      apply WD.lds; exact rfl; exact Rds.pts (vs := nodeC m) 3 rfl rfl (by rw [hml]; simp) (by rw [List.drop_zero, List.take_of_length_le (by omega)])
      apply WD.buildv; exact rfl; exact node_fill m
      refine god ?_
      apply WD.store; exact rfl; exact rfl; exact slotC_len _; exact Wr.slb 1 rfl (by simp only [AV.cells]; rw [slotC_len, hln]; omega) (slotC_one _)
      refine WD.nil (RdsOk.cons (AllP.cons (RdK.loads (Rds.pts 3 rfl rfl (by rw [hml]; simp) (by rw [List.drop_zero, List.take_of_length_le (by omega)])) (by simp only [AV.beq, node_beqs])) AllP.nil) RdsOk.go) ?_
      have hsp : splice (T.flatMap slotC) (0 + ((j : Int) + 1 - 1).toNat * 26) (slotC (m, 1)) = (T.set j (m, 1)).flatMap slotC := by
        rw [show 0 + ((j : Int) + 1 - 1).toNat * 26 = j * 26 + 0 by omega, flat_splice slotC_len T j 0 _ (m, 1) (slotC (m, 1)) (List.getElem?_eq_getElem hj) (by rw [slotC_len]; omega) (splice_all _ _ (by rw [slotC_len, slotC_len])).symm]
      have hsl : (T.set j (m, 1)).length = T.length := List.length_set
      simp only [AV.cells]
      rw [hsp]
      refine seqQ_n (WP.ent (A' := A1) (Hs' := [aA a most (T.set j (m, 1)), pts n ⟨nodeC m, .own⟩]) ?_ ?_)
      · refine Ent.trans (Ent.at 1 rfl slb_sl) ?_
        have : Ent A1 (aH a most (T.set j (m, 1)) (some (b, 0)) d1 p2 c2 ++ [pts n ⟨nodeC m, .own⟩]) A1 ([aA a most (T.set j (m, 1))] ++ [pts n ⟨nodeC m, .own⟩]) := Ent.frame aA_shut _
        unfold aH at this
        rw [hsl, hfr] at this
        exact this
      generalize T.set j (m, 1) = S1 at *
      obtain ⟨hnt, hnl⟩ := new_total hnew
      refine go ?_
      apply WP.loads; exact rfl; exact Rds.pts 1 rfl rfl (by rw [hml]; simp) hks
      refine go ?_
      refine WP.loop (σ := Nat) (fun i => 8 - i) (fun i => [(0, .ptr (some (a, 0))), (8, .int .i64 ((j : Int) + 1)), (53, .agg (m.kids.map (AV.int .i64))), (54, .int .i64 i)]) (fun i => [aA a most (incs S1 (m.kids.take i))]) (fun i A' => i ≤ 8 ∧ A' = A1) 0 LeE.go (Ent.take 1) ⟨by omega, rfl⟩ ?_
      rintro i A3 ⟨hi, rfl⟩
      unfold s15_l1
      refine go ?_
      refine WP.cond rfl (fun hb => ?_) (fun hb => ?_)
      · have hlt : i < 8 := by simp at hb; omega
        have hx := List.getElem?_eq_getElem (l := m.kids) (i := i) (by omega)
        generalize m.kids[i]'(by omega) = k at hx
        have hpa : partA (((i : Nat) : Int).toNat * 1) none (m.kids.map (AV.int .i64)) = some (.int .i64 k) := by simp [partA, hx]
        have htk : m.kids.take (i + 1) = m.kids.take i ++ [k] := by rw [List.take_add_one, hx]; rfl
        have hU := incs_snoc S1 (m.kids.take i) k
        rw [← htk] at hU
        obtain ⟨f1, f2, f3⟩ := incs_facts S1 (m.kids.take i)
        rw [List.length_take] at f2
        generalize incs S1 (m.kids.take i) = U at *
        refine go ?_
        refine WP.unex 0 rfl fun q => WP.unstarAt 0 rfl ?_
        obtain ⟨⟨q1, d1, q2, d2⟩, hd⟩ := q
        show WP _ _ _ _ (aH a most U q1 d1 q2 d2) _
        refine WP.opd (OpOk.call rfl rfl (slot_d (by omega) k) (R := []) rfl ?_)
        rintro v A2 H1 - ⟨rfl, rfl, rfl⟩
        unfold slotV
        by_cases h0 : rf U k = 0
        · rw [if_pos h0]
          rw [if_pos h0] at hU
          refine go ?_
          refine loopQ_n (i + 1) (by omega) LeE.go ?_ ⟨by omega, rfl⟩
          rw [hU]
          exact aA_shut (p1 := q1) (c1 := d1) (p2 := q2) (c2 := d2)
        · obtain ⟨x, hxx, hrx, q1, q2⟩ := rf_at h0
          have hc := slot_cell hxx q1
          have hrl := rf_le_total U k
          rw [if_neg h0]
          rw [if_neg h0] at hU
          unfold aH
          refine WP.open 1 rfl (by omega) fun b hb hln => ?_
          subst hb
          refine go ?_
          apply WP.store; exact rfl; exact rfl; exact rfl; exact Wr.slb 1 rfl (by simp only [AV.cells]; rw [hln]; simp; omega) rfl
          refine go ?_
          refine loopQ_n (i + 1) (by omega) LeE.go ?_ ⟨by omega, rfl⟩
          rw [hU]
          exact (aH_upd (g := (· + 1)) h0 (by omega) (by rw [← hrx]; omega)).trans aA_shut
      · have hlt : i = 8 := by simp at hb; omega
        subst hlt
        rw [List.take_of_length_le (by omega)]
        refine go ?_
        exact retQ_r rfl (Ent.refl _ _) ⟨rfl, .inr (.inr ⟨hall, hm, _, S1, hnew, rfl, rfl⟩)⟩
end
end Go.Proofs.Ytchffjnmkpedkaa
