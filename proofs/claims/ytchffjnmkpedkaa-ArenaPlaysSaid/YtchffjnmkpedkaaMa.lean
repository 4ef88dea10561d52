/-
  The arena, by what is owned: what lies where, and the functions that look at one place. Own work of this session.
-/
import Derived.Test.YtchffjnmkpedkaaRe
set_option linter.unusedSectionVars false
set_option linter.unusedSimpArgs false
set_option linter.unusedVariables false
namespace Go.Proofs.Ytchffjnmkpedkaa
set_option linter.unusedSectionVars false
set_option linter.unusedSimpArgs false
set_option linter.unusedVariables false
open Go.Lite Go.RowKit Go.Lite.Arena Go.Lite.Sep Go.Lite.Sep.Asn
set_option maxHeartbeats 400000
set_option maxRecDepth 10000

/-- The arena, opened. -/
def aH (a : Nat) (most : Int) (S : St) (p1 : Option (Nat × Nat)) (c1 : Cap) (p2 : Option (Nat × Nat)) (c2 : Cap) : List Asn :=
  [pts a ⟨[.int .i64 most, .slice p1 S.length c1, .slice p2 (freeOf S).length c2], .own⟩, sl p1 c1 26 S.length (S.flatMap slotC), sl p2 c2 1 (freeOf S).length ((freeOf S).map (AV.int .i64))]
/-- What is known of the capacity of the list of free places. -/
def CapF (c : Cap) : Prop := c = .known 0 ∨ c = .more 1
def aA (a : Nat) (most : Int) (S : St) : Asn := exA fun q : { q : Option (Nat × Nat) × Cap × Option (Nat × Nat) × Cap // CapF q.2.2.2 } => star (aH a most S q.1.1 q.1.2.1 q.1.2.2.1 q.1.2.2.2)

section
variable {A : Per} {Hs : List Asn} {a : Nat} {most : Int} {S : St} {p1 p2 : Option (Nat × Nat)} {c1 c2 : Cap}

theorem aA_shut (hc : CapF c2 := by assumption) : Ent A (aH a most S p1 c1 p2 c2) A [aA a most S] :=
  (Ent.star (Gs := aH a most S p1 c1 p2 c2) (R := [])).trans (Ent.ex (f := fun q : { q : Option (Nat × Nat) × Cap × Option (Nat × Nat) × Cap // CapF q.2.2.2 } => star (aH a most S q.1.1 q.1.2.1 q.1.2.2.1 q.1.2.2.2)) ⟨(p1, c1, p2, c2), hc⟩ 0 rfl)
theorem Does.aA {f : FuncId} {args : List AV} {Q : AV → Per → List Asn → Prop} (h : ∀ p1 c1 p2 c2, CapF c2 → Does F2 f args A (aH a most S p1 c1 p2 c2) Q) : Does F2 f args A [aA a most S] Q := by
  refine Does.unex 0 rfl fun q => ?_
  exact Does.ent (Ent.unstar (R := [])) (h q.1.1 q.1.2.1 q.1.2.2.1 q.1.2.2.2 q.2)

/-- Where a node lies. -/
def slotV (p1 : Option (Nat × Nat)) (S : St) (id : Int) : AV := .ptr (if rf S id = 0 then none else p1.map fun p => (p.1, p.2 + (id - 1).toNat * 26))

theorem slot_cell {S : St} {id : Int} {x : Nd × Nat} (hx : at? S id = some x) (h1 : 1 ≤ id) : (S.flatMap slotC)[0 + (id - 1).toNat * 26 + 25]? = some (.int .i64 x.2) := by
  unfold at? at hx
  rw [if_pos h1] at hx
  rw [show 0 + (id - 1).toNat * 26 + 25 = (id - 1).toNat * 26 + 25 by omega, flat_get slotC_len _ _ 25 (by omega), hx]
  exact slotC_refs x

theorem at_lt {S : St} {id : Int} (h1 : 1 ≤ id) (h2 : id ≤ S.length) : ∃ x, at? S id = some x ∧ x.2 = rf S id := by
  have : (id - 1).toNat < S.length := by omega
  unfold rf at?
  rw [if_pos h1, List.getElem?_eq_getElem this]
  exact ⟨_, rfl, rfl⟩

theorem slot_d (hlen : S.length < 1000000) (id : Int) : Does F2 48 [.ptr (some (a, 0)), .int .i64 id] A (aH a most S p1 c1 p2 c2) fun v A' H' => v = slotV p1 S id ∧ A' = A ∧ H' = aH a most S p1 c1 p2 c2 := by
  refine Does.fn F2_slot ?_
  unfold aH slotV
  by_cases h1 : id < 1
  · rw [if_pos (rf_low h1)]
    refine go ?_
    exact retQ_r rfl (Ent.refl _ _) ⟨rfl, rfl, rfl⟩
  · by_cases h2 : id > (S.length : Int)
    · rw [if_pos (rf_high h2)]
      refine go ?_
      exact retQ_r rfl (Ent.refl _ _) ⟨rfl, rfl, rfl⟩
    · obtain ⟨x, hx, hr⟩ := at_lt (S := S) (id := id) (by omega) (by omega)
      have hc := slot_cell hx (by omega)
      refine WP.open 1 rfl (by omega) fun b hb hln => ?_
      subst hb
      rw [← hr]
      by_cases h3 : x.2 = 0
      · rw [if_pos h3]
        refine go ?_
        exact retQ_r rfl (Ent.at 1 rfl slb_sl) ⟨rfl, rfl, rfl⟩
      · rw [if_neg h3]
        refine go ?_
        exact retQ_r rfl (Ent.at 1 rfl slb_sl) ⟨rfl, rfl, rfl⟩

theorem none_d (a : Nat × Nat) : Does F2 49 [.ptr (some a)] A [] fun v A' H' => v = .int .i64 10 ∧ A' = A ∧ H' = [] := by
  refine Does.fn F2_none ?_
  refine go ?_
  exact retQ_r rfl (Ent.refl _ _) ⟨rfl, rfl, rfl⟩

theorem aUsed (hlen : S.length < 1000000) : Does F2 19 [.ptr (some (a, 0))] A (aH a most S p1 c1 p2 c2) fun v A' H' => v = .int .i64 ((S.length : Int) - (freeOf S).length) ∧ A' = A ∧ H' = aH a most S p1 c1 p2 c2 := by
  refine Does.fn F2_used ?_
  have hfl := freeOf_length S
  unfold aH
  refine go ?_
  exact retQ_r rfl (Ent.refl _ _) ⟨rfl, rfl, rfl⟩

theorem aCap : Does F2 28 [.ptr (some (a, 0))] A (aH a most S p1 c1 p2 c2) fun v A' H' => v = .int .i64 most ∧ A' = A ∧ H' = aH a most S p1 c1 p2 c2 := by
  refine Does.fn F2_cap ?_
  unfold aH
  refine go ?_
  exact retQ_r rfl (Ent.refl _ _) ⟨rfl, rfl, rfl⟩

theorem slots_upd {S : St} {id : Int} {x : Nd × Nat} {z : Int} (hx : at? S id = some x) (g : Nat → Nat) (hz : z = (g x.2 : Nat)) : splice (S.flatMap slotC) (0 + (id - 1).toNat * 26 + 25) [.int .i64 z] = (upd g S id).flatMap slotC := by
  subst hz
  unfold at? at hx
  split at hx
  · rename_i h1
    rw [show 0 + (id - 1).toNat * 26 + 25 = (id - 1).toNat * 26 + 25 by omega, flat_splice slotC_len S _ 25 x (x.1, g x.2) _ hx (by simp) (by rw [slotC_set])]
    congr 1
    unfold upd
    rw [if_pos h1]
    generalize (id - 1).toNat = i at *
    apply List.ext_getElem?
    intro j
    rw [List.getElem?_modify, List.getElem?_set]
    by_cases hj : i = j
    · subst hj
      have : i < S.length := by
        rcases Nat.lt_or_ge i S.length with hh | hh
        · exact hh
        · rw [List.getElem?_eq_none hh] at hx; cases hx
      rw [if_pos rfl, if_pos this, hx]; simp
    · rw [if_neg hj]
      cases S[j]? with
      | none => rfl
      | some y => simp only [if_neg hj]; rfl
  · cases hx

theorem upd_free {g : Nat → Nat} {S : St} {id : Int} (h0 : rf S id ≠ 0) (hg : g (rf S id) ≠ 0) : freeOf (upd g S id) = freeOf S := by
  refine freeOf_same (length_upd _ _ _) fun x => ?_
  have : rf (upd g S id) x = if x = id then g (rf S x) else rf S x := by
    unfold rf
    rw [at_upd]
    by_cases hx : x = id
    · subst hx
      obtain ⟨y, hy, _⟩ := rf_at h0
      rw [if_pos rfl, if_pos rfl, hy]; rfl
    · rw [if_neg hx, if_neg hx]
  rw [this]
  by_cases hx : x = id
  · subst hx; rw [if_pos rfl]; exact ⟨fun e => absurd e hg, fun e => absurd e h0⟩
  · rw [if_neg hx]

theorem aRefs (hlen : S.length < 1000000) (id : Int) : Does F2 22 [.ptr (some (a, 0)), .int .i64 id] A (aH a most S p1 c1 p2 c2) fun v A' H' => v = .int .i64 (rf S id) ∧ A' = A ∧ H' = aH a most S p1 c1 p2 c2 := by
  refine Does.fn F2_refs ?_
  refine go ?_
  refine WP.opd (OpOk.call rfl rfl (slot_d hlen id) (R := []) rfl ?_)
  rintro v A1 H1 - ⟨rfl, rfl, rfl⟩
  unfold slotV
  by_cases h0 : rf S id = 0
  · rw [if_pos h0, h0]
    refine go ?_
    exact retQ_r rfl (Ent.refl _ _) ⟨rfl, rfl, rfl⟩
  · obtain ⟨x, hx, hr, h1, h2⟩ := rf_at h0
    have hc := slot_cell hx h1
    rw [if_neg h0]
    unfold aH
    refine WP.open 1 rfl (by omega) fun b hb hln => ?_
    subst hb
    rw [← hr]
    refine go ?_
    exact retQ_r rfl (Ent.at 1 rfl slb_sl) ⟨rfl, rfl, rfl⟩
end
end Go.Proofs.Ytchffjnmkpedkaa
