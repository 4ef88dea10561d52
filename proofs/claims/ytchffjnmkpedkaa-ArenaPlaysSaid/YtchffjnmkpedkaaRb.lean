/-
  The reference's arena: Used, Keep. Own work of this session.
-/
import Derived.Test.YtchffjnmkpedkaaRa
set_option linter.unusedSectionVars false
set_option linter.unusedSimpArgs false
set_option linter.unusedVariables false
namespace Go.Proofs.Ytchffjnmkpedkaa
set_option linter.unusedSectionVars false
set_option linter.unusedSimpArgs false
set_option linter.unusedVariables false
open Go.Lite Go.RowKit Go.Lite.Arena Go.Lite.Sep Go.Lite.Sep.Asn
set_option maxHeartbeats 400000
set_option maxRecDepth 10000

def cntPos (l : List Int) : Nat := (l.filter fun x => decide (x > 0)).length
theorem cntPos_le (l : List Int) : cntPos l ≤ l.length := List.length_filter_le _ _

section
variable {A : Per} {Hs : List Asn} {r : Nat} {most : Int} {S : St} {p1 p2 : Option (Nat × Nat)} {c1 c2 : Cap}

theorem rUsed (hlen : S.length < 1000000) : Does F2 42 [.ptr (some (r, 0))] A (rH r most S p1 c1 p2 c2) fun v A' H' => v = .int .i64 (cntPos (cnts S)) ∧ A' = A ∧ H' = rH r most S p1 c1 p2 c2 := by
  refine Does.fn F2_rused ?_
  unfold rH
  refine go ?_
  refine WP.loop (σ := Nat) (fun i => S.length + 1 - i) (fun i => [(0, .ptr (some (r, 0))), (4, .int .i64 i), (3, .int .i64 (cntPos ((cnts S).take i)))]) (fun _ => rH r most S p1 c1 p2 c2) (fun i A' => i ≤ S.length + 1 ∧ A' = A) 0 (by repeat (first | exact LeE.nil _ | refine LeE.cons2 rfl (by first | with_reducible rfl | simp [cntPos]) ?_)) (Ent.refl _ _) ⟨by omega, rfl⟩ ?_
  rintro i _ ⟨hi, rfl⟩
  unfold s42_l0 rH
  have hl := cnts_len S
  refine go ?_
  refine WP.cond rfl (fun hb => ?_) (fun hb => ?_)
  · have hlt : i < S.length + 1 := by simp at hb; omega
    have hx := List.getElem?_eq_getElem (l := cnts S) (i := i) (by omega)
    generalize (cnts S)[i]'(by omega) = x at hx
    refine WP.open 2 rfl (by omega) fun b hb hln => ?_
    subst hb
    have hc : ((cnts S).map (AV.int .i64))[0 + ((i : Nat) : Int).toNat * 1]? = some (.int .i64 x) := by simp [hx]
    have htk : cntPos ((cnts S).take (i + 1)) = cntPos ((cnts S).take i) + if x > 0 then 1 else 0 := by
      rw [List.take_add_one, hx]; simp only [cntPos, Option.toList, List.filter_append, List.length_append]
      by_cases hx0 : x > 0 <;> simp [hx0]
    have hle := cntPos_le ((cnts S).take i)
    rw [List.length_take] at hle
    by_cases hx0 : x > 0
    · refine go ?_
      exact loopQ_n (i + 1) (by omega) (by repeat (first | exact LeE.nil _ | refine LeE.cons2 rfl (by first | with_reducible rfl | simp [htk, hx0]) ?_)) (Ent.at 2 rfl slb_sl) ⟨by omega, rfl⟩
    · refine go ?_
      exact loopQ_n (i + 1) (by omega) (by repeat (first | exact LeE.nil _ | refine LeE.cons2 rfl (by first | with_reducible rfl | simp [htk, hx0]) ?_)) (Ent.at 2 rfl slb_sl) ⟨by omega, rfl⟩
  · have hlt : i = S.length + 1 := by simp at hb; omega
    subst hlt
    rw [← hl, List.take_length]
    refine go ?_
    exact retQ_r rfl (Ent.refl _ _) ⟨rfl, rfl, rfl⟩

/-- How many nodes there are. -/
theorem used_count (S : St) : (cntPos (cnts S) : Int) = S.length - (freeOf S).length := by
  have h1 : cntPos (cnts S) = (S.filter fun x => decide (x.2 > 0)).length := by
    unfold cntPos cnts
    rw [List.filter_cons]
    simp only [gt_iff_lt, Int.lt_irrefl, decide_false, Bool.false_eq_true, if_false]
    rw [List.filter_map, List.length_map]
    congr 1
    refine List.filter_congr fun x _ => ?_
    simp
  have h2 : (freeOf S).length = (S.filter fun x => x.2 == 0).length := by
    have key : ∀ n, n ≤ S.length → (((List.range n).map fun i => ((i : Nat) : Int) + 1).filter fun x => rf S x == 0).length = ((S.take n).filter fun x => x.2 == 0).length := by
      intro n
      induction n with
      | zero => intro _; simp
      | succ n ih =>
        intro hn
        have hx := List.getElem?_eq_getElem (l := S) (i := n) (by omega)
        have hr : rf S ((n : Int) + 1) = (S[n]'(by omega)).2 := by
          unfold rf at?
          rw [if_pos (by omega), show ((n : Int) + 1 - 1).toNat = n by omega, hx]; rfl
        rw [List.range_succ, List.map_append, List.filter_append, List.length_append, ih (by omega), List.take_add_one, hx]
        simp only [Option.toList, List.filter_append, List.length_append, List.map_cons, List.map_nil]
        congr 1
        by_cases h0 : (S[n]'(by omega)).2 = 0 <;> simp [hr, h0]
    have h3 := key S.length (Nat.le_refl _)
    rw [List.take_length] at h3
    rw [← h3]
    unfold freeOf
    refine List.Perm.length_eq (List.Perm.filter _ ?_)
    have : ((List.range S.length).map fun i => ((S.length - i : Nat) : Int)) = ((List.range S.length).map fun i => ((i : Nat) : Int) + 1).reverse := by
      apply List.ext_getElem
      · simp
      · intro i h1 h2
        simp only [List.length_map, List.length_range] at h1
        simp [List.getElem_reverse]
        omega
    rw [this]
    exact List.reverse_perm _
  rw [h1, h2]
  have h4 : (S.filter fun x => decide (x.2 > 0)).length + (S.filter fun x => x.2 == 0).length = S.length := by
    clear h1 h2
    induction S with
    | nil => rfl
    | cons y S ih =>
      by_cases h : y.2 = 0
      · simp [h] at ih ⊢; omega
      · simp [h, Nat.pos_of_ne_zero h] at ih ⊢; omega
  omega

theorem cnts_upd {S : St} {id : Int} {x : Nd × Nat} (hx : at? S id = some x) (g : Nat → Nat) : (cnts S).set id.toNat (g x.2 : Nat) = cnts (upd g S id) := by
  unfold at? at hx
  split at hx
  · rename_i h1
    have e : id.toNat = (id - 1).toNat + 1 := by omega
    unfold cnts upd
    rw [if_pos h1, e, List.set_cons_succ]
    congr 1
    apply List.ext_getElem?
    intro j
    rw [List.getElem?_set, List.getElem?_map, List.getElem?_map, List.getElem?_modify]
    by_cases hj : (id - 1).toNat = j
    · subst hj
      rw [hx]
      have : (id - 1).toNat < S.length := by
        rcases Nat.lt_or_ge (id - 1).toNat S.length with hh | hh
        · exact hh
        · rw [List.getElem?_eq_none hh] at hx; cases hx
      rw [if_pos rfl, if_pos (by simpa using this)]
      simp
    · rw [if_neg hj]
      cases S[j]? with
      | none => rfl
      | some y => simp only [if_neg hj]; rfl
  · cases hx
theorem nods_upd (g : Nat → Nat) (S : St) (id : Int) : nods (upd g S id) = nods S := by
  unfold nods upd
  split
  · congr 1
    apply List.ext_getElem?
    intro j
    rw [List.getElem?_map, List.getElem?_map, List.getElem?_modify]
    cases S[j]? with
    | none => rfl
    | some y => simp only [Option.map_some]; split <;> rfl
  · rfl

/-- A node's count, and where it stands. -/
theorem rf_at {S : St} {id : Int} (h : rf S id ≠ 0) : ∃ x, at? S id = some x ∧ x.2 = rf S id ∧ 1 ≤ id ∧ id ≤ S.length := by
  obtain ⟨h1, h2, x, _, h3, h4⟩ := rf_pos h
  exact ⟨x, h4, h3, h1, by omega⟩

/-- The counts, one of them changed. -/
theorem rH_upd {g : Nat → Nat} {id : Int} {b : Nat} (h : rf S id ≠ 0) : Ent A [pts r ⟨[.int .i64 most, .slice p1 (S.length + 1) c1, .slice (some (b, 0)) (S.length + 1) c2], .own⟩, sl p1 c1 25 (S.length + 1) ((nods S).flatMap nodeC), slb b c2 1 (S.length + 1) (splice ((cnts S).map (AV.int .i64)) (0 + id.toNat * 1) [.int .i64 (g (rf S id) : Nat)])] A (rH r most (upd g S id) p1 c1 (some (b, 0)) c2) := by
  obtain ⟨x, h1, h2, h3, h4⟩ := rf_at h
  have e : splice ((cnts S).map (AV.int .i64)) (0 + id.toNat * 1) [.int .i64 (g (rf S id) : Nat)] = (cnts (upd g S id)).map (AV.int .i64) := by
    rw [← cnts_upd h1 g, h2, List.map_set, Nat.zero_add, Nat.mul_one]; rfl
  rw [e]
  unfold rH
  rw [length_upd, nods_upd]
  exact Ent.at 2 rfl slb_sl

theorem rKeep (hlen : S.length < 1000000) (id : Int) (hr : rf S id < 1000000000) : Does F2 25 [.ptr (some (r, 0)), .int .i64 id] A [rA r most S] fun v A' H' => A' = A ∧ ((rf S id = 0 ∧ v = .int .i64 10 ∧ H' = [rA r most S]) ∨ (rf S id ≠ 0 ∧ v = .int .i64 0 ∧ H' = [rA r most (inc S id)])) := by
  refine Does.rA fun p1 c1 p2 c2 => Does.fn F2_rkeep ?_
  unfold rH
  refine go ?_
  refine WP.opd (OpOk.call rfl rfl (rIs id) (R := []) rfl ?_)
  rintro _ _ _ - ⟨rfl, rfl, rfl⟩
  by_cases h0 : rf S id = 0
  · have e : (rf S id != 0) = false := by simp [h0]
    rw [e]
    refine go ?_
    exact retQ_r rfl (rA_shut (p1 := p1) (c1 := c1) (p2 := p2) (c2 := c2)) ⟨rfl, .inl ⟨h0, rfl, rfl⟩⟩
  · have e : (rf S id != 0) = true := by simp [h0]
    obtain ⟨x, h1, h2, h3, h4⟩ := rf_at h0
    have hc := cnts_get S id (by omega) (by omega)
    rw [e]
    refine go ?_
    refine WP.open (cs := (cnts S).map (AV.int .i64)) 2 rfl (by omega) fun b hb hln => ?_
    subst hb
    have hc1 : ((cnts S).map (AV.int .i64))[0 + id.toNat * 1]? = some (.int .i64 (rf S id)) := by simp [hc]
    refine god ?_
    apply WD.store; exact rfl; exact rfl; exact rfl; exact Wr.slb 2 rfl (by simp [cnts_len, AV.cells]; omega) rfl
    refine WD.nil RdsOk.go ?_
    refine go ?_
    refine retQ_r rfl (Hs' := [rA r most (inc S id)]) (Ent.trans (A1 := _) (rH_upd (g := (· + 1)) h0) rA_shut) ⟨rfl, .inr ⟨h0, rfl, rfl⟩⟩
end
end Go.Proofs.Ytchffjnmkpedkaa
