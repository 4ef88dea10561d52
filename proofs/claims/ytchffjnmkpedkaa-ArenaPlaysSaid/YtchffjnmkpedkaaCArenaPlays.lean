/-
  ArenaPlays holds: whatever the size and the acts are, the arena's answers, its nodes and how often each is asked for are what the document says, and the law says true.
  The frame follows the kit's skeleton of a law; the walk is this session's own work.
-/
import Derived.Test.YtchffjnmkpedkaaRows
import Derived.Test.YtchffjnmkpedkaaMg
import Derived.Test.YtchffjnmkpedkaaOp
import Derived.Test.YtchffjnmkpedkaaLw
set_option linter.unusedSectionVars false
set_option linter.unusedSimpArgs false
set_option linter.unusedVariables false
namespace Go.Proofs.Ytchffjnmkpedkaa.arenaPlays
set_option linter.unusedSectionVars false
set_option linter.unusedSimpArgs false
open Go.Lite Go.ChangeShapes Go.WideShapes Go.ChangeAt Go.RowKit Go.Lite.Arena
set_option linter.unusedVariables false

theorem own : ownKnob Try.prog.godebug = none := by kernel_rfl

set_option maxRecDepth 100000 in
theorem lifted (os : Os) (started : os.Started) (H : Type) (enc : TypeId × Value → H) :
    ReturnsInHanded {} Try.checked os 5 .any (Rows.arenaPlaysSpec.pre6 enc Try.prog Try.f5 Rows.arenaPlaysRow.domain false) (Rows.arenaPlaysSpec.post enc Try.prog Try.f5 false true false false) := by
  refine returnsInHanded_of_change (C := Try.checked) own started (by kernel_rfl) Try.func5
    (ChangeSpec.witness6 (enc := enc) (C := Try.checked) false ⟨#[], #[.int .i64 0, .slice none 0 0], []⟩ 8 (by kernel_rfl) (by kernel_rfl) (by kernel_rfl) (by kernel_rfl)) ?_
  intro W base args ds gs before hval0 hW hcnd _
  have hval : ∀ (j : Nat) t v, Try.f5.params[j]? = some t → args[j]? = some v → Value.okWide Try.prog W .any base t v := hval0
  have hW' := hW
  obtain ⟨p, q, hA0, hV, rfl, hfz, hnd⟩ := hW
  have hA : DataW.TrodAll enc Try.prog W 0 (fun _ => true) true Try.f5.params.toList args.toList ds p := hA0
  have hA1 := hA
  rw [Try.params5] at hA1 hval
  obtain ⟨v0, vs0, d0, ds0, p0, q0, hargs, rfl, _, h0, r0⟩ := trodAll_cons hA1
  obtain ⟨v1, vs1, d1, ds1, p1, q1, rfl, rfl, _, h1, r1⟩ := trodAll_cons r0
  obtain ⟨rfl, rfl, _⟩ := trodAll_nil r1
  obtain rfl : args = #[v0, v1] := by cases args; simp_all
  obtain ⟨rfl, rfl⟩ := trodVars_none hV
  obtain ⟨fu1, t1⟩ := h1
  obtain ⟨n, rfl, _⟩ := open_i (P := Try.prog) Try.underlying3 (hval 0 _ v0 rfl rfl)
  obtain ⟨acts, ρ, hp, bs, cap, HR, hno, hr1, hq⟩ := open_acts (hval 1 _ v1 rfl rfl) t1
  have hd : Go.Lite.Sep.Does F2 5 [.int .i64 n, .slice bs acts.length cap] (if acts = [] then [] else [(0, (⟨acts.flatMap actC, .ro⟩ : Blk))]) [] fun v _ _ => v = .bool true :=
    plays_d (q := 0) fun hne => ⟨(hq hne).1, by rw [if_neg hne]; simp⟩
  have hA2 : ∀ p ∈ (if acts = [] then ([] : Go.Lite.Sep.Per) else [(0, (⟨acts.flatMap actC, .ro⟩ : Blk))]), hp.get p.1 = some p.2 ∧ p.1 < hp.next := by
    intro p hpm
    split at hpm
    · cases hpm
    · rename_i hne
      rw [List.mem_singleton] at hpm
      subst hpm
      exact (hq hne).2
  clear hA0 hval0
  simp only [List.append_nil] at hW'
  refine (law_walk3 F2_ok mixed ctxOk Try.call5 HR hno (args' := #[.int .i64 n, v1]) (.cons _ _ _ _ (.int _ _) (.cons _ _ _ _ hr1 .nil)) hA2 hd).mono fun e W' ⟨he, hg⟩ => ?_
  subst he
  exact ⟨_, rfl, post_law (tb := 4) (by kernel_rfl) (by kernel_rfl) hW' hA rfl rfl (by kernel_rfl) Try.underlying4 hg⟩

theorem over : Rows.arenaPlaysRow.holds Try.pinned (OpenSpec.ofChange Rows.arenaPlaysSpec) :=
  OpenClaim.holds_of_wide 5 Try.f5 rfl rfl rfl rfl rfl rfl rfl ⟨rfl, rfl, rfl, rfl, rfl⟩ rfl rfl rfl rfl rfl (by kernel_rfl) Try.func5 (by kernel_rfl)
    (of_decide_eq_true (by kernel_rfl)) (by unfold Func.isWrapper; first | (rw [if_pos (by decide +kernel)]; kernel_rfl) | (rw [if_neg (by decide +kernel)]; exact ⟨rfl, rfl⟩))
    (fun os started H enc _ => lifted os started H enc)

/-- THE STATEMENT -/
theorem proved : Rows.ArenaPlaysSaid :=
  over
#print axioms proved
end Go.Proofs.Ytchffjnmkpedkaa.arenaPlays
