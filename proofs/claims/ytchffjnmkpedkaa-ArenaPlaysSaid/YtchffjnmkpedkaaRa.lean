/-
  The reference's arena: New, Is, Used, Keep. Own work of this session.
-/
import Derived.Test.YtchffjnmkpedkaaWe
import Derived.Test.YtchffjnmkpedkaaAp
set_option linter.unusedSectionVars false
set_option linter.unusedSimpArgs false
set_option linter.unusedVariables false
namespace Go.Proofs.Ytchffjnmkpedkaa
set_option linter.unusedSectionVars false
set_option linter.unusedSimpArgs false
set_option linter.unusedVariables false
open Go.Lite Go.RowKit Go.Lite.Arena Go.Lite.Sep Go.Lite.Sep.Asn
set_option maxHeartbeats 400000
set_option maxRecDepth 10000

/-- The reference's arena, opened. -/
def rH (r : Nat) (most : Int) (S : St) (p1 : Option (Nat × Nat)) (c1 : Cap) (p2 : Option (Nat × Nat)) (c2 : Cap) : List Asn :=
  [pts r ⟨[.int .i64 most, .slice p1 (S.length + 1) c1, .slice p2 (S.length + 1) c2], .own⟩, sl p1 c1 25 (S.length + 1) ((nods S).flatMap nodeC), sl p2 c2 1 (S.length + 1) ((cnts S).map (AV.int .i64))]
def rA (r : Nat) (most : Int) (S : St) : Asn := exA fun q : Option (Nat × Nat) × Cap × Option (Nat × Nat) × Cap => star (rH r most S q.1 q.2.1 q.2.2.1 q.2.2.2)

section
variable {A : Per} {Hs : List Asn} {r : Nat} {most : Int} {S : St} {p1 p2 : Option (Nat × Nat)} {c1 c2 : Cap}

theorem rA_shut : Ent A (rH r most S p1 c1 p2 c2) A [rA r most S] :=
  (Ent.star (Gs := rH r most S p1 c1 p2 c2) (R := [])).trans (Ent.ex (f := fun q : Option (Nat × Nat) × Cap × Option (Nat × Nat) × Cap => star (rH r most S q.1 q.2.1 q.2.2.1 q.2.2.2)) (p1, c1, p2, c2) 0 rfl)
theorem Does.rA {f : FuncId} {args : List AV} {Q : AV → Per → List Asn → Prop} (h : ∀ p1 c1 p2 c2, Does F2 f args A (rH r most S p1 c1 p2 c2) Q) : Does F2 f args A [rA r most S] Q := by
  refine Does.unex 0 rfl fun q => ?_
  exact Does.ent (Ent.unstar (R := [])) (h q.1 q.2.1 q.2.2.1 q.2.2.2)

theorem cnts_len (S : St) : (cnts S).length = S.length + 1 := by simp [cnts]
theorem nods_len (S : St) : (nods S).length = S.length + 1 := by simp [nods]
theorem rf_high {S : St} {id : Int} (h : (S.length : Int) < id) : rf S id = 0 := by
  unfold rf at?; rw [if_pos (by omega), List.getElem?_eq_none (by omega)]; rfl
theorem rf_low {S : St} {id : Int} (h : id < 1) : rf S id = 0 := by unfold rf at?; rw [if_neg (by omega)]; rfl

theorem F2_rnew : F2 23 = some (.text s23) := rfl
theorem F2_rused : F2 42 = some (.text s42) := rfl
theorem F2_rkeep : F2 25 = some (.text s25) := rfl

theorem rNew_err {most : Int} (h : most < 1 ∨ 20000 < most) : Does F2 23 [.int .i64 most] A [] fun v A' H' => v = .tuple [.ptr none, .int .i64 2] ∧ A' = A ∧ H' = [] := by
  refine Does.fn F2_rnew ?_
  by_cases h1 : most < 1
  · refine go ?_
    exact retQ_r rfl (Ent.refl _ _) ⟨rfl, rfl, rfl⟩
  · have h2 : most > 20000 := by omega
    refine go ?_
    exact retQ_r rfl (Ent.refl _ _) ⟨rfl, rfl, rfl⟩

theorem rNew_ok {most : Int} (h1 : 1 ≤ most) (h2 : most ≤ 20000) : Does F2 23 [.int .i64 most] A [] fun v A' H' => A' = A ∧ ∃ r, v = .tuple [.ptr (some (r, 0)), .int .i64 0] ∧ H' = [rA r most []] := by
  refine Does.fn F2_rnew ?_
  refine go ?_
  apply WP.buildSlice; exact rfl; exact rfl; intro b1
  apply WP.buildSlice; exact rfl; exact rfl; intro b2
  refine go ?_
  apply WP.box; exact rfl; exact rfl; intro r
  refine go ?_
  refine retQ_r rfl (Hs' := [rA r most []]) ?_ ⟨rfl, r, rfl, rfl⟩
  refine Ent.trans (Ent.front 2 rfl) ?_
  refine Ent.trans (Ent.at 1 rfl (pts_sl (e := 25) (n := 1) rfl rfl (by omega))) ?_
  refine Ent.trans (Ent.at 2 rfl (pts_sl (e := 1) (n := 1) rfl rfl (by omega))) ?_
  exact rA_shut (S := []) (p1 := some (b1, 0)) (c1 := .known 1) (p2 := some (b2, 0)) (c2 := .known 1)

theorem rIs (id : Int) : Does F2 52 [.ptr (some (r, 0)), .int .i64 id] A (rH r most S p1 c1 p2 c2) fun v A' H' => v = .bool (rf S id != 0) ∧ A' = A ∧ H' = rH r most S p1 c1 p2 c2 := by
  refine Does.fn F2_is ?_
  unfold rH
  by_cases h1 : id > 0
  · by_cases h2 : id < (S.length : Int) + 1
    · have hc := cnts_get S id h1 h2
      refine WP.open 2 rfl (by omega) fun b hb hln => ?_
      subst hb
      have hc1 : ((cnts S).map (AV.int .i64))[0 + id.toNat * 1]? = some (.int .i64 (rf S id)) := by simp [hc]
      by_cases h3 : rf S id = 0
      · have e : (rf S id != 0) = false := by simp [h3]
        rw [e]
        refine go ?_
        exact retQ_r rfl (Ent.at 2 rfl slb_sl) ⟨rfl, rfl, rfl⟩
      · have e : (rf S id != 0) = true := by simp [h3]
        rw [e]
        refine go ?_
        exact retQ_r rfl (Ent.at 2 rfl slb_sl) ⟨rfl, rfl, rfl⟩
    · rw [rf_high (by omega)]
      refine go ?_
      exact retQ_r rfl (Ent.refl _ _) ⟨rfl, rfl, rfl⟩
  · rw [rf_low (by omega)]
    refine go ?_
    exact retQ_r rfl (Ent.refl _ _) ⟨rfl, rfl, rfl⟩
end
end Go.Proofs.Ytchffjnmkpedkaa
