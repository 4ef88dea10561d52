/-
  The reference's arena: Drop. Own work of this session.
-/
import Derived.Test.YtchffjnmkpedkaaRb
set_option linter.unusedSectionVars false
set_option linter.unusedSimpArgs false
set_option linter.unusedVariables false
namespace Go.Proofs.Ytchffjnmkpedkaa
set_option linter.unusedSectionVars false
set_option linter.unusedSimpArgs false
set_option linter.unusedVariables false
open Go.Lite Go.RowKit Go.Lite.Arena Go.Lite.Sep Go.Lite.Sep.Asn
set_option maxHeartbeats 400000
set_option maxRecDepth 10000

theorem F2_rdrop : F2 26 = some (.text s26) := rfl

section
variable {A : Per} {Hs : List Asn} {r : Nat} {most : Int} {S : St} {p1 p2 : Option (Nat × Nat)} {c1 c2 : Cap}

theorem rH_upd2 {g : Nat → Nat} {id z : Int} {b : Nat} (h : rf S id ≠ 0) (hz : z = (g (rf S id) : Nat)) : Ent A [pts r ⟨[.int .i64 most, .slice p1 (S.length + 1) c1, .slice (some (b, 0)) (S.length + 1) c2], .own⟩, sl p1 c1 25 (S.length + 1) ((nods S).flatMap nodeC), slb b c2 1 (S.length + 1) (splice ((cnts S).map (AV.int .i64)) (0 + id.toNat * 1) [.int .i64 z])] A (rH r most (upd g S id) p1 c1 (some (b, 0)) c2) := by
  subst hz; exact rH_upd h

theorem Runs.nods {p : List Int} {S T : St} (h : Runs p S T) : nods T = nods S := by
  induction h with
  | nil S => rfl
  | dead _ _ _ _ _ _ ih => exact ih
  | more k _ _ _ _ _ ih => rw [ih]; exact nods_upd _ _ _
  | last k _ _ _ _ _ ih => rw [ih]; exact nods_upd _ _ _

theorem nods_get {S : St} {id : Int} {x : Nd × Nat} (hx : at? S id = some x) : (nods S)[id.toNat]? = some x.1 := by
  unfold at? at hx
  split at hx
  · rename_i h1
    have e : id.toNat = (id - 1).toNat + 1 := by omega
    unfold nods
    rw [e, List.getElem?_cons_succ, List.getElem?_map, hx]; rfl
  · cases hx

theorem kids_flat {ns : List Nd} {i j : Nat} {n : Nd} (hn : ns[i]? = some n) (hj : j < 8) {k : Int} (hk : n.kids[j]? = some k) : (ns.flatMap nodeC)[0 + i * 25 + 1 + j * 1]? = some (.int .i64 k) := by
  rw [show 0 + i * 25 + 1 + j * 1 = i * 25 + (1 + j) by omega, flat_get nodeC_len _ i (1 + j) (by omega), hn]
  simp only [Option.bind_some, nodeC]
  rw [show 1 + j = j + 1 by omega, List.getElem?_cons_succ, List.getElem?_append_left (by simp [n.hk]; omega), List.getElem?_map, hk]; rfl

/-- Drop. -/
theorem rDrop : ∀ (n : Nat) (S : St), total S ≤ n → S.length < 1000000 → total S < 1000000000 → ∀ (id : Int) (A : Per), Does F2 26 [.ptr (some (r, 0)), .int .i64 id] A [rA r most S]
    fun v A' H' => A' = A ∧ ((rf S id = 0 ∧ v = .int .i64 10 ∧ H' = [rA r most S]) ∨ (rf S id ≠ 0 ∧ v = .int .i64 0 ∧ ∃ T, Runs [id] S T ∧ H' = [rA r most T])) := by
  intro n
  induction n with
  | zero =>
    intro S hn hlen ht id A
    have h0 : rf S id = 0 := by
      have := rf_le_total S id; omega
    refine Does.rA fun p1 c1 p2 c2 => Does.fn F2_rdrop ?_
    refine go ?_
    refine WP.opd (OpOk.call rfl rfl (rIs id) (R := []) rfl ?_)
    rintro _ _ _ - ⟨rfl, rfl, rfl⟩
    have e : (rf S id != 0) = false := by simp [h0]
    rw [e]
    refine go ?_
    exact retQ_r rfl (rA_shut (p1 := p1) (c1 := c1) (p2 := p2) (c2 := c2)) ⟨rfl, .inl ⟨h0, rfl, rfl⟩⟩
  | succ n ih =>
    intro S hn hlen ht id A
    refine Does.rA fun p1 c1 p2 c2 => Does.fn F2_rdrop ?_
    refine go ?_
    refine WP.opd (OpOk.call rfl rfl (rIs id) (R := []) rfl ?_)
    rintro v A1 H1 - ⟨rfl, rfl, rfl⟩
    by_cases h0 : rf S id = 0
    · have e : (rf S id != 0) = false := by simp [h0]
      rw [e]
      refine go ?_
      exact retQ_r rfl (rA_shut (p1 := p1) (c1 := c1) (p2 := p2) (c2 := c2)) ⟨rfl, .inl ⟨h0, rfl, rfl⟩⟩
    · have e : (rf S id != 0) = true := by simp [h0]
      obtain ⟨x, h1, h2, h3, h4⟩ := rf_at h0
      have hc := cnts_get S id (by omega) (by omega)
      have htd := total_dec S id h0
      have hrl := rf_le_total S id
      rw [e]
      refine go ?_
      refine WP.open (cs := (cnts S).map (AV.int .i64)) 2 rfl (by omega) fun b hb hln => ?_
      subst hb
      have hc1 : ((cnts S).map (AV.int .i64))[0 + id.toNat * 1]? = some (.int .i64 (rf S id)) := by simp [hc]
      refine god ?_
      apply WD.store; exact rfl; exact rfl; exact rfl; exact Wr.slb 2 rfl (by simp [cnts_len, AV.cells]; omega) rfl
      refine WD.nil RdsOk.go ?_
      refine seqQ_n (WP.ent (rH_upd2 (g := (· - 1)) h0 (by omega)) ?_)
      have hdl : (dec S id).length = S.length := length_upd _ _ _
      have hrd : rf (dec S id) id = rf S id - 1 := by rw [rf_dec, if_pos rfl]
      have hc2 : ((cnts (dec S id)).map (AV.int .i64))[0 + id.toNat * 1]? = some (.int .i64 (rf S id - 1 : Nat)) := by
        have := cnts_get (dec S id) id (by omega) (by omega)
        rw [hrd] at this
        simp [this]
      refine WP.open (cs := (cnts (dec S id)).map (AV.int .i64)) 2 rfl (by omega) fun b' hb' hln' => ?_
      cases hb'
      show WP _ _ _ _ [pts r ⟨[.int .i64 most, .slice p1 ((dec S id).length + 1) c1, .slice (some (b, 0)) ((dec S id).length + 1) c2], .own⟩, sl p1 c1 25 ((dec S id).length + 1) ((nods (dec S id)).flatMap nodeC), slb b c2 1 ((dec S id).length + 1) ((cnts (dec S id)).map (AV.int .i64))] _
      have e1 : ((dec S id).length : Int) = S.length := by rw [hdl]
      by_cases hr1 : rf S id = 1
      · have hm : (rf S id - 1 : Nat) = 0 := by omega
        rw [hm] at hc2
        refine go ?_
        have hkids : kidsOf S id = x.1.kids := by unfold kidsOf; rw [h1]; rfl
        have fin : ∀ T, Runs x.1.kids (dec S id) T → Runs [id] S T := fun T hT => .last id [] S T hr1 (by rw [hkids, List.append_nil]; exact hT)
        refine WP.loop (σ := Nat × St) (fun s => 8 - s.1) (fun s => [(0, .ptr (some (r, 0))), (1, .int .i64 id), (5, .int .i64 s.1)]) (fun s => [rA r most s.2]) (fun s A' => s.1 ≤ 8 ∧ A' = A1 ∧ Runs (x.1.kids.take s.1) (dec S id) s.2) (0, dec S id) LeE.go ((Ent.at 2 rfl slb_sl).trans (rA_shut (S := dec S id) (p1 := p1) (c1 := c1) (p2 := some (b, 0)) (c2 := c2))) ⟨by omega, rfl, .nil _⟩ ?_
        rintro ⟨i, T⟩ A2 ⟨hi, rfl, hT⟩
        simp only at hi hT ⊢
        have hk8 := x.1.hk
        have hTl : T.length = S.length := by rw [hT.length, hdl]
        have hTt := hT.total
        have hTn : nods T = nods S := by rw [Runs.nods hT]; exact nods_upd _ _ _
        have hnx : (nods T)[id.toNat]? = some x.1 := by rw [hTn]; exact nods_get h1
        unfold s26_l0
        refine go ?_
        refine WP.cond rfl (fun hb => ?_) (fun hb => ?_)
        · have hlt : i < 8 := by simp at hb; omega
          have hx := List.getElem?_eq_getElem (l := x.1.kids) (i := i) (by omega)
          generalize x.1.kids[i]'(by omega) = k at hx
          have htk : x.1.kids.take (i + 1) = x.1.kids.take i ++ [k] := by rw [List.take_add_one, hx]; rfl
          have hcell := kids_flat hnx hlt hx
          refine WP.unex 0 rfl fun q => WP.unstarAt 0 rfl ?_
          obtain ⟨q1, d1, q2, d2⟩ := q
          show WP _ _ _ _ (rH r most T q1 d1 q2 d2) _
          unfold rH
          refine WP.open 1 rfl (by omega) fun b hb hln => ?_
          subst hb
          by_cases hk0 : k = 0
          · subst hk0
            refine go ?_
            refine loopQ_n (i + 1, T) (by simp; omega) LeE.go ((Ent.at 1 rfl slb_sl).trans (rA_shut (S := T) (p1 := some (_, 0)) (c1 := d1) (p2 := q2) (c2 := d2))) ⟨by omega, rfl, ?_⟩
            rw [htk]
            exact hT.append (.dead 0 [] T T (rf_low (by omega)) (.nil _))
          · refine go ?_
            refine WP.ent ((Ent.at 1 rfl slb_sl).trans (rA_shut (S := T) (p1 := some (_, 0)) (c1 := d1) (p2 := q2) (c2 := d2))) ?_
            refine WP.opd (OpOk.call rfl rfl (ih T (by omega) (by omega) (by omega) k _) (R := []) rfl ?_)
            rintro v A3 H3 - ⟨rfl, hv⟩
            obtain ⟨T', hT', rfl⟩ : ∃ T', Runs [k] T T' ∧ H3 = [rA r most T'] := by
              rcases hv with ⟨e0, _, rfl⟩ | ⟨_, _, T', e1, rfl⟩
              · exact ⟨T, .dead k [] T T e0 (.nil _), rfl⟩
              · exact ⟨T', e1, rfl⟩
            refine go ?_
            refine loopQ_n (i + 1, T') (by simp; omega) LeE.go (Ent.refl _ _) ⟨by omega, rfl, ?_⟩
            rw [htk]
            exact hT.append hT'
        · have hlt : i = 8 := by simp at hb; omega
          subst hlt
          rw [List.take_of_length_le (by omega)] at hT
          refine go ?_
          exact retQ_r rfl (Ent.refl _ _) ⟨rfl, .inr ⟨h0, rfl, T, fin T hT, rfl⟩⟩
      · refine go ?_
        refine retQ_r rfl (Hs' := [rA r most (dec S id)]) ((Ent.at 2 rfl slb_sl).trans (rA_shut (S := dec S id) (p1 := p1) (c1 := c1) (p2 := some (b, 0)) (c2 := c2))) ⟨rfl, .inr ⟨h0, rfl, _, .more id [] S _ (by omega) (.nil _), rfl⟩⟩
end
end Go.Proofs.Ytchffjnmkpedkaa
