/-
  'slices.overlaps' at ints: what the evaluator takes of the function without a text, held against the model's own entry. Own work of this session.
-/
import Derived.Test.YtchffjnmkpedkaaIn
set_option linter.unusedSectionVars false
set_option linter.unusedSimpArgs false
set_option linter.unusedVariables false
namespace Go.Proofs.Ytchffjnmkpedkaa
set_option linter.unusedSectionVars false
open Go.Lite Go.RowKit
set_option linter.unusedVariables false
set_option linter.unusedSimpArgs false

theorem ov_plain {P : Program} {ρ : Ren} {h : Hp} {w : World} (H : HRel ρ h w) {b : Nat} {l : Lite.Loc} {k : Blk} (hl : ρ b = some l) (hk : h.get b = some k) (ho : k.kind ≠ .ro ∧ ¬ k.kind.hid = true) :
    (∃ t, w.shape? l.row = some (t, l.tot)) ∧ (∀ o, w.frozen? ⟨l.row, o, none⟩ = false) ∧ (k.cells ≠ [] → l.tot ≠ 0) := by
  obtain ⟨c, e, z, h1, h2, h3, h4⟩ := (H.blk _ _ _ hk hl).1 ho.2
  have hz := h3 ho.1
  subst hz
  refine ⟨⟨e, by simp [World.shape?, h1, h2]⟩, fun o => by simp [World.frozen?, h1], fun hne ht => ?_⟩
  cases hkc : k.cells with
  | nil => exact hne hkc
  | cons v r =>
    obtain ⟨u, hu, _⟩ := h4 0 v (by simp [hkc])
    have := (Array.getElem?_eq_some_iff.1 hu).1
    omega

/-- What the evaluator's slice with a block is, in the model. -/
theorem ov_slice {ρ : Ren} {h : Hp} {w : World} (H : HRel ρ h w) {a : Nat × Nat} {n : Nat} {c : Cap} {u : Value} (r : Rel ρ (.slice (some a) n c) u) :
    ∃ l off m, ρ a.1 = some l ∧ u = .slice (some ⟨l.row, off, none⟩) n m := by
  cases r with
  | slice b o n c off l h1 h2 h3 => exact ⟨l, off, _, h1, rfl⟩
  | sliceG b o n e c off l h1 h2 h3 h4 => exact ⟨l, off, _, h1, rfl⟩

theorem overlaps_ok : DefOk Try.prog 67 (.ext overlapsA) := by
  intro args h v h' e ρ w args' H hr
  unfold overlapsA at e
  split at e
  case h_2 => cases e
  rename_i a la ca b lb cb h0
  split at e
  case h_2 => cases e
  rename_i ka kb hka hkb
  split at e
  case isFalse => cases e
  rename_i hc
  cases e
  obtain ⟨hne, ho1, ho2, hne2⟩ := hc
  obtain ⟨l', rfl⟩ : ∃ l' : List Value, args' = ⟨l'⟩ := ⟨args'.toList, rfl⟩
  simp only at hr
  cases hr with
  | cons _ u1 _ m1 r1 hr1 =>
  cases hr1 with
  | cons _ u2 _ m2 r2 hr2 =>
  cases hr2
  obtain ⟨l1, off1, c1, hl1, rfl⟩ := ov_slice H r1
  obtain ⟨l2, off2, c2, hl2, rfl⟩ := ov_slice H r2
  obtain ⟨⟨t1, s1⟩, f1, _⟩ := ov_plain (P := Try.prog) H hl1 hka ho1
  obtain ⟨⟨t2, s2⟩, _, n2⟩ := ov_plain (P := Try.prog) H hl2 hkb ho2
  have hrow : l1.row ≠ l2.row := fun e => hne (H.one _ _ _ _ _ _ hka hkb ho1.1 hl1 hl2 e)
  refine ⟨.bool false, w, ρ, ?_, .bool _, H, Step.refl _ _ _⟩
  rw [run_callFunc_extern Try.func67 (by kernel_rfl) (by kernel_rfl) (by kernel_rfl) (e := Extern.SlicesOverlaps.overlaps #[Try.f67.params.getD 0 0, Try.f67.params.getD 0 0] #[Try.f67.resultTypes.getD 0 0]) (by kernel_rfl),
    Go.Lib.run_overlaps_apart w _ _ (Try.f67.targs.getD 0 0) (by kernel_rfl) 1 (fun w => by kernel_rfl) ⟨l1.row, off1, none⟩ ⟨l2.row, off2, none⟩ _ c1 _ c2 hrow t1 t2 _ _ s1 s2 (n2 hne2) (f1 _) (f1 _)]
  rfl

end Go.Proofs.Ytchffjnmkpedkaa
