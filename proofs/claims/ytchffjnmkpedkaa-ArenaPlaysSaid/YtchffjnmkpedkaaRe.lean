/-
  The reference's arena: Make. Own work of this session.
-/
import Derived.Test.YtchffjnmkpedkaaRc
set_option linter.unusedSectionVars false
set_option linter.unusedSimpArgs false
set_option linter.unusedVariables false
namespace Go.Proofs.Ytchffjnmkpedkaa
set_option linter.unusedSectionVars false
set_option linter.unusedSimpArgs false
set_option linter.unusedVariables false
open Go.Lite Go.RowKit Go.Lite.Arena Go.Lite.Sep Go.Lite.Sep.Asn
set_option maxHeartbeats 800000
set_option maxRecDepth 10000

theorem F2_rmake : F2 24 = some (.text s24) := rfl

theorem kid_cell {m : Nd} {i : Nat} {k : Int} (hi : i < 8) (hk : m.kids[i]? = some k) : (nodeC m)[0 + 1 + ((i : Nat) : Int).toNat * 1]? = some (.int .i64 k) := by
  unfold nodeC
  rw [show 0 + 1 + ((i : Nat) : Int).toNat * 1 = i + 1 by simp; omega, List.getElem?_cons_succ, List.getElem?_append_left (by simp [m.hk]; omega), List.getElem?_map, hk]; rfl

section
variable {A : Per} {Hs : List Asn} {r : Nat} {most : Int} {S : St} {p1 p2 : Option (Nat × Nat)} {c1 c2 : Cap}

/-- What Make comes to. -/
def MakeQ (S : St) (m : Nd) (H : St → List Asn) (most : Int) (v : AV) (H' : List Asn) : Prop :=
  (m.kids.all (kidOk S) = false ∧ v = .tuple [.int .i64 0, .int .i64 10] ∧ H' = H S) ∨
  (m.kids.all (kidOk S) = true ∧ most ≤ (S.length : Int) - (freeOf S).length ∧ v = .tuple [.int .i64 0, .int .i64 14] ∧ H' = H S) ∨
  (m.kids.all (kidOk S) = true ∧ ¬ most ≤ (S.length : Int) - (freeOf S).length ∧ ∃ id S1, NewAt S id m S1 ∧ v = .tuple [.int .i64 id, .int .i64 0] ∧ H' = H (incs S1 m.kids))

theorem norm_leaf_ok {nd : Nd} (h : nd.leaf = true) (S : St) : (norm nd).kids.all (kidOk S) = true := by
  unfold norm; rw [if_pos h]; rfl

theorem rH_push : rH r most (S ++ [(zNd, 0)]) p1 c1 p2 c2 = [pts r ⟨[.int .i64 most, .slice p1 (S.length + 1 + 1) c1, .slice p2 (S.length + 1 + 1) c2], .own⟩, sl p1 c1 25 (S.length + 1 + 1) ((nods S).flatMap nodeC ++ zN), sl p2 c2 1 (S.length + 1 + 1) ((cnts S).map (AV.int .i64) ++ [.int .i64 0])] := by
  simp [rH, nods, cnts]; rfl

theorem new_at {s : Nat} {m : Nd} {T : St} (hs : s < T.length) (hlow : ∀ x : Int, 1 ≤ x → x ≤ s → rf S x ≠ 0) (h0 : rf S (s + 1) = 0) (hT : (T = S ∧ s < S.length) ∨ (s = S.length ∧ T = S ++ [(zNd, 0)])) : NewAt S (s + 1) m (T.set s (m, 1)) := by
  unfold NewAt
  rcases hT with ⟨rfl, hl⟩ | ⟨rfl, rfl⟩
  · refine .inr ⟨mem_freeOf.2 ⟨by omega, by omega, h0⟩, fun x hx => ?_, by rw [show ((s : Int) + 1 - 1).toNat = s by omega]⟩
    obtain ⟨h1, h2, h3⟩ := mem_freeOf.1 hx
    by_cases h : (s : Int) < x
    · omega
    · exact absurd h3 (hlow x h1 (by omega))
  · refine .inl ⟨?_, by simp, ?_⟩
    · cases hq : freeOf S with
      | nil => rfl
      | cons x l =>
        obtain ⟨h1, h2, h3⟩ := mem_freeOf.1 (show x ∈ freeOf S by rw [hq]; simp)
        exact absurd h3 (hlow x h1 h2)
    · rw [List.set_append_right _ _ (Nat.le_refl _)]; simp

/-- A node stored at its place. -/
theorem rH_store {s : Nat} {m : Nd} {T : St} {b1 b2 : Nat} (hs : s < T.length) : Ent A [pts r ⟨[.int .i64 most, .slice (some (b1, 0)) (T.length + 1) c1, .slice (some (b2, 0)) (T.length + 1) c2], .own⟩, slb b1 c1 25 (T.length + 1) (splice ((nods T).flatMap nodeC) (0 + ((s : Int) + 1).toNat * 25) (nodeC m)), slb b2 c2 1 (T.length + 1) (splice ((cnts T).map (AV.int .i64)) (0 + ((s : Int) + 1).toNat * 1) [.int .i64 1])] A (rH r most (T.set s (m, 1)) (some (b1, 0)) c1 (some (b2, 0)) c2) := by
  have e0 : ((s : Int) + 1).toNat = s + 1 := by omega
  have hx : (nods T)[s + 1]? = some (T[s]'hs).1 := by simp [nods, List.getElem?_eq_getElem hs]
  have e1 : splice ((nods T).flatMap nodeC) (0 + ((s : Int) + 1).toNat * 25) (nodeC m) = (nods (T.set s (m, 1))).flatMap nodeC := by
    rw [e0, Nat.zero_add, show (s + 1) * 25 = (s + 1) * 25 + 0 by omega, flat_splice nodeC_len _ (s + 1) 0 _ m (nodeC m) hx (by rw [nodeC_len]; omega) (splice_all _ _ (by rw [nodeC_len, nodeC_len])).symm]
    congr 1
    simp [nods, List.map_set]
  have e2 : splice ((cnts T).map (AV.int .i64)) (0 + ((s : Int) + 1).toNat * 1) [.int .i64 1] = (cnts (T.set s (m, 1))).map (AV.int .i64) := by
    rw [e0, Nat.zero_add, Nat.mul_one]
    simp [cnts, splice, List.map_set]
  rw [e1, e2]
  unfold rH
  rw [List.length_set]
  exact (Ent.at 1 rfl slb_sl).trans (Ent.at 2 rfl slb_sl)

theorem rMake (hlen : S.length + 1 < 1000000) (htot : total S + 10 < 1000000000) (nd : Nd) : Does F2 24 [.ptr (some (r, 0)), .agg (nodeC nd)] A [rA r most S] fun v A' H' => A' = A ∧ MakeQ S (norm nd) (fun S => [rA r most S]) most v H' := by
  refine Does.rA fun p1 c1 p2 c2 => Does.fn F2_rmake ?_
  have hone := nodeC_one nd
  refine go ?_
  apply WP.box; exact rfl; exact hone; intro n
  refine go ?_
  refine WP.mid (fun L A' Hs' => LeE [(0, .ptr (some (r, 0))), (3, .ptr (some (n, 0)))] L ∧ A' = A ∧ Hs' = rH r most S p1 c1 p2 c2 ++ [pts n ⟨nodeC (norm nd), .own⟩] ∧ (norm nd).kids.all (kidOk S) = true) ?_ ?_
  · show WP _ _ _ _ (rH r most S p1 c1 p2 c2 ++ [pts n ⟨nodeC nd, .own⟩]) _
    unfold rH
    cases hleaf : nd.leaf with
    | true =>
      have hc : (nodeC nd)[0 + 0]? = some (.bool true) := by rw [← hleaf]; rfl
      refine go ?_
      apply WP.store; exact rfl; exact rfl; exact rfl; exact Wr.pts 3 rfl rfl (by simp) (by rw [nodeC_len]; simp [AV.cells]) rfl
      have he := norm_leaf nd hleaf
      simp only [AV.cells] 
      rw [show (0 : Nat) + 1 = 1 from rfl, he]
      refine go ?_
      exact ⟨LeE.go, rfl, rfl, norm_leaf_ok hleaf S⟩
    | false =>
      have hc : (nodeC nd)[0 + 0]? = some (.bool false) := by rw [← hleaf]; rfl
      refine go ?_
      apply WP.store; exact rfl; exact rfl; exact rfl; exact Wr.pts 3 rfl rfl (by simp) (by rw [nodeC_len]; simp [AV.cells]) rfl
      have he := norm_node nd hleaf
      simp only [AV.cells] 
      rw [show (0 : Nat) + 9 = 9 from rfl, he]
      refine go ?_
      have hnm : (norm nd).kids = nd.kids := by unfold norm; rw [hleaf]; rfl
      have hk8 := (norm nd).hk
      refine WP.loop (σ := Nat) (fun i => 8 - i) (fun i => [(0, .ptr (some (r, 0))), (3, .ptr (some (n, 0))), (6, .int .i64 i)]) (fun _ => rH r most S p1 c1 p2 c2 ++ [pts n ⟨nodeC (norm nd), .own⟩]) (fun i A' => i ≤ 8 ∧ A' = A ∧ ((norm nd).kids.take i).all (kidOk S) = true) 0 LeE.go (Ent.refl _ _) ⟨by omega, rfl, rfl⟩ ?_
      rintro i A2 ⟨hi, rfl, hall⟩
      unfold s24_l0 rH
      refine go ?_
      refine WP.cond rfl (fun hb => ?_) (fun hb => ?_)
      · have hlt : i < 8 := by simp at hb; omega
        have hx := List.getElem?_eq_getElem (l := (norm nd).kids) (i := i) (by omega)
        generalize (norm nd).kids[i]'(by omega) = k at hx
        have hc2 := kid_cell hlt hx
        have htk : (norm nd).kids.take (i + 1) = (norm nd).kids.take i ++ [k] := by rw [List.take_add_one, hx]; rfl
        have next : kidOk S k = true → ((norm nd).kids.take (i + 1)).all (kidOk S) = true := fun hk => by rw [htk, List.all_append, hall]; simp [hk]
        by_cases hk0 : k = 0
        · refine go ?_
          exact loopQ_n (i + 1) (by omega) LeE.go (Ent.refl _ _) ⟨by omega, rfl, next (by simp [kidOk, hk0])⟩
        · refine go ?_
          refine WP.opd (OpOk.call rfl rfl (rIs k) (R := [pts n ⟨nodeC (norm nd), .own⟩]) rfl ?_)
          rintro v A1 H1 - ⟨rfl, rfl, rfl⟩
          by_cases h0 : rf S k = 0
          · have e : (rf S k != 0) = false := by simp [h0]
            rw [e]
            refine go ?_
            refine retQ_r rfl (Hs' := [rA r most S]) ((Ent.take 3).trans (rA_shut (p1 := p1) (c1 := c1) (p2 := p2) (c2 := c2))) ⟨rfl, .inl ⟨?_, rfl, rfl⟩⟩
            refine List.all_eq_false.2 ⟨k, List.mem_of_getElem? hx, ?_⟩
            simp [kidOk, h0, hk0]
          · have e : (rf S k != 0) = true := by simp [h0]
            rw [e]
            refine go ?_
            exact loopQ_n (i + 1) (by omega) LeE.go (Ent.refl _ _) ⟨by omega, rfl, next (by simp [kidOk, h0])⟩
      · have hlt : i = 8 := by simp at hb; omega
        subst hlt
        rw [List.take_of_length_le (by omega)] at hall
        refine go ?_
        exact midQ_n ⟨LeE.go, rfl, rfl, hall⟩
  · rintro L A1 _ ⟨hL, rfl, rfl, hall⟩
    refine WP.weak hL ?_
    have hfl := freeOf_length S
    have huc := used_count S
    have hk8 := (norm nd).hk
    refine WP.seq (WP.seq ?_)
    refine god ?_
    refine WD.loud rfl (OpOk.call rfl rfl (rUsed (by omega)) (R := [pts n ⟨nodeC (norm nd), .own⟩]) rfl ?_)
    rintro v A2 H2 - ⟨rfl, rfl, rfl⟩
    rw [huc]
    show WD _ _ _ _ _ _ _ ([pts r ⟨[.int .i64 most, .slice p1 (S.length + 1) c1, .slice p2 (S.length + 1) c2], .own⟩, sl p1 c1 25 (S.length + 1) ((nods S).flatMap nodeC), sl p2 c2 1 (S.length + 1) ((cnts S).map (AV.int .i64))] ++ [pts n ⟨nodeC (norm nd), .own⟩]) _
    by_cases hm : most ≤ (S.length : Int) - (freeOf S).length
    · refine god ?_
      refine WD.nil RdsOk.go ?_
      refine go ?_
      exact retQ_r rfl ((Ent.take 3).trans (rA_shut (p1 := p1) (c1 := c1) (p2 := p2) (c2 := c2))) ⟨rfl, .inr (.inl ⟨hall, hm, rfl, rfl⟩)⟩
    · refine god ?_
      refine WD.nil RdsOk.go ?_
      refine go ?_
      refine WP.loop (σ := Nat) (fun s => S.length - s) (fun s => [(0, .ptr (some (r, 0))), (3, .ptr (some (n, 0))), (7, .int .i64 ((s : Int) + 1))]) (fun _ => rH r most S p1 c1 p2 c2 ++ [pts n ⟨nodeC (norm nd), .own⟩]) (fun s A' => s ≤ S.length ∧ A' = A2 ∧ ∀ x : Int, 1 ≤ x → x ≤ s → rf S x ≠ 0) 0 LeE.go (Ent.refl _ _) ⟨by omega, rfl, fun x h1 h2 => by omega⟩ ?_
      rintro s A3 ⟨hs, rfl, hlow⟩
      unfold s24_l1
      refine go ?_
      refine WP.opd (OpOk.call rfl rfl (rIs ((s : Int) + 1)) (R := [pts n ⟨nodeC (norm nd), .own⟩]) rfl ?_)
      rintro v A1 H1 - ⟨rfl, rfl, rfl⟩
      by_cases h0 : rf S ((s : Int) + 1) = 0
      · have e : (rf S ((s : Int) + 1) != 0) = false := by simp [h0]
        rw [e]
        refine go ?_
        refine WP.mid (fun L A' Hs' => ∃ T p1 c1 p2 c2, LeE [(0, .ptr (some (r, 0))), (3, .ptr (some (n, 0))), (7, .int .i64 ((s : Int) + 1))] L ∧ Ent A' Hs' A1 (rH r most T p1 c1 p2 c2 ++ [pts n ⟨nodeC (norm nd), .own⟩]) ∧ s < T.length ∧ ((T = S ∧ s < S.length) ∨ (s = S.length ∧ T = S ++ [(zNd, 0)]))) ?_ ?_
        · unfold rH
          refine WP.cond rfl (fun hb => ?_) (fun hb => ?_)
          · have hsl : s = S.length := by simp at hb; omega
            refine go ?_
            apply WP.buildSlice (cs := zN); exact rfl; exact rfl; intro b1
            apply WP.append 1; exact rfl; exact rfl; exact rfl; exact Src.pts 4 rfl rfl rfl rfl; exact ⟨by simp [maxLenB]; omega, by simp [maxLenB]; omega⟩
            intro p1' c1'
            refine go ?_
            apply WP.store; exact rfl; exact rfl; exact rfl; exact Wr.pts 0 rfl rfl (by simp) (by simp [AV.cells, splice]) rfl
            refine go ?_
            apply WP.buildSlice (cs := [.int .i64 0]); exact rfl; exact rfl; intro b2
            apply WP.append 2; exact rfl; exact rfl; exact rfl; exact Src.pts 5 rfl rfl rfl rfl; exact ⟨by simp [maxLenB]; omega, by simp [maxLenB]; omega⟩
            intro p2' c2'
            refine go ?_
            apply WP.store; exact rfl; exact rfl; exact rfl; exact Wr.pts 0 rfl rfl (by simp) (by simp [AV.cells, splice]) rfl
            refine go ?_
            refine midQ_n ⟨S ++ [(zNd, 0)], p1', c1', p2', c2', LeE.go, ?_, by simp; omega, .inr ⟨hsl, rfl⟩⟩
            show Ent _ _ _ (rH r most (S ++ [(zNd, 0)]) p1' c1' p2' c2' ++ [pts n ⟨nodeC (norm nd), .own⟩])
            rw [rH_push]
            exact Ent.take 4
          · have hsl : ¬ s = S.length := by simp at hb; omega
            refine go ?_
            exact midQ_n ⟨S, p1, c1, p2, c2, LeE.go, Ent.refl _ _, by omega, .inl ⟨rfl, by omega⟩⟩
        · rintro L A2 Hs2 ⟨T, p1, c1, p2, c2, hL, hE, hsT, hT⟩
          refine WP.weak hL (WP.ent hE ?_)
          have hTl : T.length ≤ S.length + 1 := by
            rcases hT with ⟨rfl, _⟩ | ⟨_, rfl⟩ <;> simp
          have hnew := new_at (m := norm nd) hsT hlow h0 hT
          have hfun : (nodeC (norm nd)).length = 25 := nodeC_len _
          unfold rH
          refine WP.open 1 rfl (by omega) fun b1 hb1 hln1 => ?_
          refine WP.open (p := p2) 2 rfl (by omega) fun b2 hb2 hln2 => ?_
          subst hb1 hb2
          have hns := nods_len T
          have hcs := cnts_len T
          have hfl2 := flat_length nodeC_len (nods T)
          refine WP.seq ?_
          refine god ?_
          apply WD.lds; exact rfl; exact Rds.pts (vs := nodeC (norm nd)) 3 rfl rfl (by rw [hfun]; simp) (by rw [List.drop_zero, List.take_of_length_le (by omega)])
          refine god ?_
          apply WD.store; exact rfl; exact rfl; exact hfun; exact Wr.slb 1 rfl (by rw [hfl2, hns]; simp only [AV.cells, hfun]; omega) (nodeC_one _)
          refine WD.nil (RdsOk.cons (AllP.cons (RdK.loads (Rds.pts 3 rfl rfl (by rw [hfun]; simp) (by rw [List.drop_zero, List.take_of_length_le (by omega)])) (by simp only [AV.beq, node_beqs])) AllP.nil) RdsOk.go) ?_
          refine go ?_
          apply WP.store; exact rfl; exact rfl; exact rfl; exact Wr.slb 2 rfl (by simp [AV.cells, hcs]; omega) rfl
          refine WP.ent (((rH_store (s := s) (m := norm nd) hsT).trans rA_shut).frame [pts n ⟨nodeC (norm nd), .own⟩]) ?_
          generalize T.set s (norm nd, 1) = S1 at hnew
          have hkid : ∀ k, k ∈ (norm nd).kids → k ≠ 0 → rf S1 k ≠ 0 := fun k hk hk0 => by
            obtain ⟨q1, q2, q3, _⟩ := hnew.facts
            have := List.all_eq_true.1 hall k hk
            rw [q3]
            split
            · omega
            · simpa [kidOk, hk0] using this
          obtain ⟨hnt, hnl⟩ := new_total hnew
          refine go ?_
          refine WP.loop (σ := Nat) (fun i => 8 - i) (fun i => [(0, .ptr (some (r, 0))), (3, .ptr (some (n, 0))), (7, .int .i64 ((s : Int) + 1)), (8, .int .i64 i)]) (fun i => [rA r most (incs S1 ((norm nd).kids.take i)), pts n ⟨nodeC (norm nd), .own⟩]) (fun i A' => i ≤ 8 ∧ A' = A1) 0 LeE.go (Ent.refl _ _) ⟨by omega, rfl⟩ ?_
          rintro i A3 ⟨hi, rfl⟩
          unfold s24_l2
          refine go ?_
          refine WP.cond rfl (fun hb => ?_) (fun hb => ?_)
          · have hlt : i < 8 := by simp at hb; omega
            have hx := List.getElem?_eq_getElem (l := (norm nd).kids) (i := i) (by omega)
            generalize (norm nd).kids[i]'(by omega) = k at hx
            have hc2 := kid_cell hlt hx
            have htk : (norm nd).kids.take (i + 1) = (norm nd).kids.take i ++ [k] := by rw [List.take_add_one, hx]; rfl
            have hU := incs_snoc S1 ((norm nd).kids.take i) k
            rw [← htk] at hU
            obtain ⟨f1, f2, f3⟩ := incs_facts S1 ((norm nd).kids.take i)
            rw [List.length_take] at f2
            generalize incs S1 ((norm nd).kids.take i) = U at *
            by_cases hk0 : k = 0
            · rw [if_pos (by rw [hk0]; exact rf_low (by omega))] at hU
              refine go ?_
              exact loopQ_n (i + 1) (by omega) LeE.go (by rw [hU]; exact Ent.refl _ _) ⟨by omega, rfl⟩
            · have hrU : rf U k ≠ 0 := fun hh => hkid k (List.mem_of_getElem? hx) hk0 ((f3 k).1 hh)
              rw [if_neg hrU] at hU
              obtain ⟨x, h1, h2, h3, h4⟩ := rf_at hrU
              have hrl := rf_le_total U k
              have hcc := cnts_get U k (by omega) (by omega)
              refine go ?_
              refine WP.unex 0 rfl fun q => WP.unstarAt 0 rfl ?_
              obtain ⟨q1, d1, q2, d2⟩ := q
              show WP _ _ _ _ ([pts n ⟨nodeC (norm nd), .own⟩] ++ rH r most U q1 d1 q2 d2) _
              unfold rH
              refine WP.open 3 rfl (by omega) fun b hb hln => ?_
              subst hb
              have hcs := cnts_len U
              have hc1 : ((cnts U).map (AV.int .i64))[0 + k.toNat * 1]? = some (.int .i64 (rf U k)) := by simp [hcc]
              refine god ?_
              apply WD.store; exact rfl; exact rfl; exact rfl; exact Wr.slb 3 rfl (by simp [AV.cells, hcs]; omega) rfl
              refine WD.nil RdsOk.go ?_
              refine go ?_
              refine loopQ_n (i + 1) (by omega) LeE.go (Ent.trans (Ent.frameL [pts n ⟨nodeC (norm nd), .own⟩] ((rH_upd2 (g := (· + 1)) hrU rfl).trans rA_shut)) ?_) ⟨by omega, rfl⟩
              rw [hU]
              exact Ent.perm (.swap _ _ _)
          · have hlt : i = 8 := by simp at hb; omega
            subst hlt
            rw [List.take_of_length_le (by omega)]
            refine go ?_
            exact retQ_r rfl (Ent.take 1) ⟨rfl, .inr (.inr ⟨hall, hm, _, S1, hnew, rfl, rfl⟩)⟩
      · have e : (rf S ((s : Int) + 1) != 0) = true := by simp [h0]
        obtain ⟨_, _, _, _, h4⟩ := rf_at h0
        rw [e]
        refine go ?_
        refine loopQ_n (s + 1) (by omega) LeE.go (Ent.refl _ _) ⟨by omega, rfl, fun x h1 h2 => ?_⟩
        by_cases hx : x = (s : Int) + 1
        · rw [hx]; exact h0
        · exact hlow x h1 (by omega)
end
end Go.Proofs.Ytchffjnmkpedkaa
