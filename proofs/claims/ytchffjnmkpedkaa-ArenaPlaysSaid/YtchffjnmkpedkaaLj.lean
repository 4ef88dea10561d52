/-
  LITE, part j: one operation of the evaluator is the model's. Own work of this session.
-/
import Derived.Test.YtchffjnmkpedkaaLi
set_option linter.unusedSectionVars false
set_option linter.unusedSimpArgs false
set_option linter.unusedVariables false
namespace Go.Lite
set_option linter.unusedSectionVars false
set_option linter.unusedSimpArgs false
set_option linter.unusedVariables false
open Go.RowKit
variable [Ctx]

section
variable {P : Program} {ρ : Ren} {h h' : Hp} {w : World} {fr : Fr} {env : Operand → Value}

theorem splice_rel {ρ : Ren} : ∀ {vs : List AV} {us : List Value}, RelL ρ vs us → ∀ {l : List AV} {c : Array Value} (o k : Nat), RelL ρ l c.toList →
    RelL ρ (splice l (o + k) vs) ((us.zipIdx k).foldl (fun cs (x, j) => cs.setIfInBounds (o + j) x) c).toList
  | _, _, .nil, l, c, o, k, h => h
  | _, _, .cons v u vs us h1 h2, l, c, o, k, h => by
    simp only [splice, List.zipIdx_cons, List.foldl_cons]
    have := splice_rel h2 (l := l.set (o + k) v) (c := c.setIfInBounds (o + k) u) o (k + 1) (by
      rw [Array.toList_setIfInBounds]; exact RelL.set h _ h1)
    rwa [Nat.add_assoc]

theorem fill_rel {place : Nat → Option (Nat × Nat)} : ∀ {parts : List (Nat × Operand)} {lp : List (Nat × Nat × Opd)} {ps : List (Nat × Nat × AV)}, lowerParts place parts = some lp → partsA fr lp = some ps →
    (∀ p ∈ parts, EnvOk ρ fr env p.2) → ∀ {l r : List AV} {c : Array Value}, RelL ρ l c.toList → fillA l ps = some r →
    ∃ c', Instr.fill place c (parts.map fun (i, x) => (i, env x)) = some c' ∧ RelL ρ r c'.toList
  | [], lp, ps, h1, h2, _, l, r, c, hr, hf => by
    simp only [lowerParts, Option.some.injEq] at h1; subst h1
    simp only [partsA, Option.some.injEq] at h2; subst h2
    simp only [fillA, Option.some.injEq] at hf; subst hf
    exact ⟨c, rfl, hr⟩
  | (i, x) :: parts, lp, ps, h1, h2, he, l, r, c, hr, hf => by
    simp only [lowerParts] at h1
    split at h1
    case h_2 => cases h1
    rename_i o s a m e1 e2 e3
    cases h1
    simp only [partsA] at h2
    split at h2
    case h_2 => cases h2
    rename_i v vs e4 e5
    cases h2
    simp only [fillA] at hf
    split at hf
    case isFalse => cases hf
    rename_i hc
    obtain ⟨hc1, hc2, hc3⟩ := hc
    have hv := he (i, x) (by simp) _ _ e2 e4
    have hcells := hv.cells (AV.noJunk hc3)
    have hsz : (env x).cells.size = s := by have := RelL.length hcells; simp at this; omega
    have hcs : c.size = l.length := by have := RelL.length hr; simp at this; omega
    obtain ⟨c', q1, q2⟩ := fill_rel (place := place) e3 e5 (fun p hp => he p (by simp [hp])) (l := splice l o v.cells) (c := ((env x).cells.zipIdx.foldl (fun cs (x, j) => cs.setIfInBounds (o + j) x) c)) (by
      have := splice_rel hcells o 0 hr
      rw [← Array.foldl_toList, Array.toList_zipIdx]; exact this) hf
    refine ⟨c', ?_, q2⟩
    simp only [List.map_cons, Instr.fill, e1]
    rw [if_neg (by simp [hsz, hcs]; omega)]
    exact q1

theorem opt_rel {X : Option Operand} {x : Option Opd} {v : Option AV} (h1 : lowerOptOpd X = some x) (h2 : optOpd fr x = some v) (he : ∀ y, X = some y → EnvOk ρ fr env y) {n : Option Int} (hn : optInt v = some n) :
    ∃ k : IntKind, X.map env = n.map (Value.int k) := by
  cases X with
  | none =>
    simp only [lowerOptOpd, Option.some.injEq] at h1; subst h1
    simp only [optOpd, Option.some.injEq] at h2; subst h2
    simp only [optInt, Option.some.injEq] at hn; subst hn
    exact ⟨.i64, rfl⟩
  | some y =>
    simp only [lowerOptOpd, Option.map_eq_some_iff] at h1
    obtain ⟨a, ha, rfl⟩ := h1
    simp only [optOpd] at h2
    cases e : opd fr a with
    | none => simp [e] at h2
    | some u =>
      simp only [e, Option.some.injEq] at h2; subst h2
      have r := he y rfl _ _ ha e
      cases u <;> simp only [optInt, reduceCtorEq, Option.some.injEq] at hn
      subst hn
      cases hx : env y <;> rw [hx] at r <;> cases r
      rename_i k0 n0
      exact ⟨k0, by simp [hx]⟩

theorem run_bounds (isSlice : Bool) {len cap l i m : Nat} {lo hi mx : Option Int} (hb : bounds len cap lo hi mx = some (l, i, m)) (k1 k2 k3 : IntKind) (w : World) :
    (Instr.sliceBounds isSlice len cap (lo.map (Value.int k1)) (hi.map (Value.int k2)) (mx.map (Value.int k3))).run P w = .ok (l, i, m) w := by
  unfold bounds at hb
  have sb : ∀ (k : IntKind) (x : Int) (y : Nat) (code : BoundsCode), 0 ≤ x ∧ x ≤ (y : Int) → (Instr.sliceBound (.int k x) y code).run P w = .ok x.toNat w := fun k x y code hx => run_sliceBound w k x y code hx.1 hx.2
  cases mx with
  | none =>
    simp only at hb
    cases hi with
    | none =>
      simp only at hb
      cases lo with
      | none => simp only [Option.some.injEq, Prod.mk.injEq] at hb; obtain ⟨rfl, rfl, rfl⟩ := hb; simp [Instr.sliceBounds]
      | some x =>
        simp only at hb
        split at hb
        · cases hb
        · rename_i q hq
          split at hq
          · rename_i hx; cases hq; simp only [Option.some.injEq, Prod.mk.injEq] at hb; obtain ⟨rfl, rfl, rfl⟩ := hb
            simp [Instr.sliceBounds, sb _ _ _ _ hx]
          · cases hq
    | some y =>
      simp only at hb
      split at hb
      · cases hb
      · rename_i h1 hh1
        split at hh1
        · rename_i hy
          cases hh1
          cases lo with
          | none => simp only [Option.some.injEq, Prod.mk.injEq] at hb; obtain ⟨rfl, rfl, rfl⟩ := hb; simp [Instr.sliceBounds, sb _ _ _ _ hy]
          | some x =>
            simp only at hb
            split at hb
            · cases hb
            · rename_i q hq
              split at hq
              · rename_i hx; cases hq; simp only [Option.some.injEq, Prod.mk.injEq] at hb; obtain ⟨rfl, rfl, rfl⟩ := hb
                simp [Instr.sliceBounds, sb _ _ _ _ hy, sb _ _ _ _ hx]
              · cases hq
        · cases hh1
  | some z =>
    simp only at hb
    split at hb
    · cases hb
    · rename_i m1 hm1
      split at hm1
      · rename_i hz
        cases hm1
        cases hi with
        | none => simp at hb
        | some y =>
          simp only at hb
          split at hb
          · cases hb
          · rename_i h1 hh1
            split at hh1
            · rename_i hy
              cases hh1
              cases lo with
              | none => simp only [Option.some.injEq, Prod.mk.injEq] at hb; obtain ⟨rfl, rfl, rfl⟩ := hb; simp [Instr.sliceBounds, sb _ _ _ _ hz, sb _ _ _ _ hy]
              | some x =>
                simp only at hb
                split at hb
                · cases hb
                · rename_i q hq
                  split at hq
                  · rename_i hx; cases hq; simp only [Option.some.injEq, Prod.mk.injEq] at hb; obtain ⟨rfl, rfl, rfl⟩ := hb
                    simp [Instr.sliceBounds, sb _ _ _ _ hz, sb _ _ _ _ hy, sb _ _ _ _ hx]
                  · cases hq
            · cases hh1
      · cases hm1

/-- The bounds keep inside: what the relation wants. -/
theorem bounds_le {len cap l i m : Nat} {lo hi mx : Option Int} (hlc : len ≤ cap) (hb : bounds len cap lo hi mx = some (l, i, m)) : l ≤ i ∧ i ≤ m ∧ m ≤ cap ∧ (hi = none → i = len) ∧ (mx = none → m = cap) := by
  unfold bounds at hb
  cases mx with
  | none =>
    simp only at hb
    cases hi with
    | none =>
      simp only at hb
      cases lo with
      | none => simp only [Option.some.injEq, Prod.mk.injEq] at hb; obtain ⟨rfl, rfl, rfl⟩ := hb; simp; omega
      | some x =>
        simp only at hb
        split at hb
        · cases hb
        · rename_i q hq
          split at hq
          · cases hq; simp only [Option.some.injEq, Prod.mk.injEq] at hb; obtain ⟨rfl, rfl, rfl⟩ := hb; simp; omega
          · cases hq
    | some y =>
      simp only at hb
      split at hb
      · cases hb
      · rename_i h1 hh1
        split at hh1
        · cases hh1
          cases lo with
          | none => simp only [Option.some.injEq, Prod.mk.injEq] at hb; obtain ⟨rfl, rfl, rfl⟩ := hb; simp; omega
          | some x =>
            simp only at hb
            split at hb
            · cases hb
            · rename_i q hq
              split at hq
              · cases hq; simp only [Option.some.injEq, Prod.mk.injEq] at hb; obtain ⟨rfl, rfl, rfl⟩ := hb; simp; omega
              · cases hq
        · cases hh1
  | some z =>
    simp only at hb
    split at hb
    · cases hb
    · rename_i m1 hm1
      split at hm1
      · cases hm1
        cases hi with
        | none => simp at hb
        | some y =>
          simp only at hb
          split at hb
          · cases hb
          · rename_i h1 hh1
            split at hh1
            · cases hh1
              cases lo with
              | none => simp only [Option.some.injEq, Prod.mk.injEq] at hb; obtain ⟨rfl, rfl, rfl⟩ := hb; simp; omega
              | some x =>
                simp only at hb
                split at hb
                · cases hb
                · rename_i q hq
                  split at hq
                  · cases hq; simp only [Option.some.injEq, Prod.mk.injEq] at hb; obtain ⟨rfl, rfl, rfl⟩ := hb; simp; omega
                  · cases hq
            · cases hh1
      · cases hm1

/-- Where no new end is named, the bounds at a greater capacity are the same but for the end. -/
theorem bounds_more {len cap l i m : Nat} {lo hi : Option Int} (hlc : len ≤ cap) (hb : bounds len len lo hi none = some (l, i, m)) : bounds len cap lo hi none = some (l, i, cap) := by
  unfold bounds at hb ⊢
  simp only at hb ⊢
  cases hi with
  | none =>
    simp only at hb ⊢
    cases lo with
    | none => simp only [Option.some.injEq, Prod.mk.injEq] at hb; obtain ⟨rfl, rfl, rfl⟩ := hb; rfl
    | some x =>
      simp only at hb ⊢
      split at hb
      · cases hb
      · rename_i q hq
        simp only [Option.some.injEq, Prod.mk.injEq] at hb; obtain ⟨rfl, rfl, rfl⟩ := hb; rfl
  | some y =>
    simp only at hb ⊢
    split at hb
    · cases hb
    · rename_i h1 hh1
      split at hh1
      · rename_i hy
        cases hh1
        rw [if_pos (by omega)]
        cases lo with
        | none => simp only [Option.some.injEq, Prod.mk.injEq] at hb; obtain ⟨rfl, rfl, rfl⟩ := hb; rfl
        | some x =>
          simp only at hb ⊢
          split at hb
          · cases hb
          · rename_i q hq
            simp only [Option.some.injEq, Prod.mk.injEq] at hb; obtain ⟨rfl, rfl, rfl⟩ := hb; rfl
      · cases hh1

theorem bounds_more_mx {len cap l i m : Nat} {lo hi : Option Int} {z : Int} (hlc : len ≤ cap) (hb : bounds len len lo hi (some z) = some (l, i, m)) : bounds len cap lo hi (some z) = some (l, i, m) := by
  unfold bounds at hb ⊢
  simp only at hb ⊢
  split at hb
  · cases hb
  · rename_i m1 hm1
    split at hm1
    · rename_i hz
      cases hm1
      rw [if_pos (by omega)]
      exact hb
    · cases hm1

theorem rel_slice_of {b o n c off : Nat} {l : Loc} (hl : ρ b = some l) (hoff : n = 0 ∧ c = 0 ∨ off = l.base + o) (hnc : n ≤ c) : Rel ρ (.slice (some (b, o)) n (.known c)) (.slice (some ⟨l.row, off, none⟩) n c) :=
  .slice b o n c off l hl (hoff.imp (fun hh => hh.2) id) hnc

theorem slice_ok {t : TypeId} {k : SlK} (hk : (k = .str ∧ P.underlying t = some .string) ∨ (∃ e z, k = .slice z ∧ P.underlying t = some (.slice e) ∧ sizeT P e = some z) ∨
      (∃ n e z, k = .arr n z ∧ P.underlying t = some (.array n e) ∧ sizeT P e = some z))
    {a v : AV} {va : Value} (ra : Rel ρ a va) {lo hi mx : Option Int} (hv : sliceA k a lo hi mx = some v) (k1 k2 k3 : IntKind) :
    ∃ u, (Instr.sliceAt t va (lo.map (Value.int k1)) (hi.map (Value.int k2)) (mx.map (Value.int k3))).run P w = .ok u w ∧ Rel ρ v u := by
  rcases hk with ⟨rfl, hu⟩ | ⟨e, z, rfl, hu, hz⟩ | ⟨n, e, z, rfl, hu, hz⟩
  · cases ra <;> simp only [sliceA, reduceCtorEq] at hv
    rename_i s
    split at hv
    · rename_i l i m hb
      cases hv
      refine ⟨.string (s.extract l i), ?_, .str _⟩
      have := run_bounds (P := P) false hb k1 k2 k3 w
      simp only [Option.map_none] at this ⊢
      simp [Instr.sliceAt, Instr.slice, run_underlying hu, this]
    · cases hv
  · cases ra <;> simp only [sliceA, reduceCtorEq] at hv
    · -- nil
      split at hv
      · rename_i l i m hb
        cases hv
        have hr := run_bounds (P := P) true hb k1 k2 k3 w
        have hle := bounds_le (Nat.le_refl 0) hb
        refine ⟨.slice none (i - l) (m - l), ?_, ?_⟩
        · simp only [Instr.sliceAt, Instr.slice, Sem.run_bind, run_underlying hu, Result.andThen_ok, hr, run_sizeT hz, Sem.run_pure]
          congr 2; split <;> rfl
        · obtain ⟨h1, h2, h3, _, _⟩ := hle
          obtain rfl : m = 0 := by omega
          obtain rfl : i = 0 := by omega
          obtain rfl : l = 0 := by omega
          simpa using .sliceNil
      · cases hv
    · -- a known capacity
      rename_i b o n c off l0 hl hoff hnc
      split at hv
      · rename_i l i m hb
        cases hv
        have hr := run_bounds (P := P) true hb k1 k2 k3 w
        obtain ⟨h1, h2, h3, _, _⟩ := bounds_le hnc hb
        by_cases hml : m = l
        · refine ⟨.slice (some ⟨l0.row, off, none⟩) (i - l) (m - l), ?_, ?_⟩
          · simp only [Instr.sliceAt, Instr.slice, Sem.run_bind, run_underlying hu, Result.andThen_ok, hr, run_sizeT hz, Sem.run_pure, if_pos hml]
          · rw [if_pos hml]
            exact rel_slice_of hl (.inl ⟨by omega, by omega⟩) (by omega)
        · refine ⟨.slice (some ⟨l0.row, off + l * z, none⟩) (i - l) (m - l), ?_, ?_⟩
          · simp only [Instr.sliceAt, Instr.slice, Sem.run_bind, run_underlying hu, Result.andThen_ok, hr, run_sizeT hz, Sem.run_pure, if_neg hml, Option.map_some, addr_add]
          · rw [if_neg hml]
            have hoff' : off = l0.base + o := by omega
            exact rel_slice_of hl (.inr (by omega)) (by omega)
      · cases hv
    · -- a capacity that is not known
      rename_i b o n e0 c off l0 hl hoff hnc htot
      split at hv
      case isFalse => cases hv
      rename_i hez
      subst hez
      split at hv
      case h_2 => cases hv
      rename_i l i m hb
      obtain ⟨h1, h2, h3, h4, h5⟩ := bounds_le (Nat.le_refl n) hb
      cases mx with
      | none =>
        simp only [Option.some.injEq] at hv; subst hv
        obtain rfl := h5 rfl
        have hr := run_bounds (P := P) true (bounds_more hnc hb) k1 k2 k3 w
        simp only [Option.map_none] at hr ⊢
        by_cases hml : c = l
        · refine ⟨.slice (some ⟨l0.row, off, none⟩) (i - l) (c - l), ?_, ?_⟩
          · simp only [Instr.sliceAt, Instr.slice, Sem.run_bind, run_underlying hu, Result.andThen_ok, hr, run_sizeT hz, Sem.run_pure, if_pos hml]
          · exact .sliceG b _ _ e0 _ off l0 hl (.inl (by omega)) (by omega) (by
              have : (c - l) * e0 = 0 := by rw [hml]; simp
              omega)
        · refine ⟨.slice (some ⟨l0.row, off + l * e0, none⟩) (i - l) (c - l), ?_, ?_⟩
          · simp only [Instr.sliceAt, Instr.slice, Sem.run_bind, run_underlying hu, Result.andThen_ok, hr, run_sizeT hz, Sem.run_pure, if_neg hml, Option.map_some, addr_add]
          · have hmul : l * e0 + (c - l) * e0 = c * e0 := by rw [← Nat.add_mul]; congr 1; omega
            exact .sliceG b _ _ e0 _ _ l0 hl (by omega) (by omega) (by omega)
      | some y =>
        simp only [Option.some.injEq] at hv; subst hv
        have hr := run_bounds (P := P) true (bounds_more_mx hnc hb) k1 k2 k3 w
        simp only [Option.map_some] at hr ⊢
        by_cases hml : m = l
        · refine ⟨.slice (some ⟨l0.row, off, none⟩) (i - l) (m - l), ?_, ?_⟩
          · simp only [Instr.sliceAt, Instr.slice, Sem.run_bind, run_underlying hu, Result.andThen_ok, hr, run_sizeT hz, Sem.run_pure, if_pos hml]
          · rw [if_pos hml]
            exact rel_slice_of hl (.inl ⟨by omega, by omega⟩) (by omega)
        · refine ⟨.slice (some ⟨l0.row, off + l * e0, none⟩) (i - l) (m - l), ?_, ?_⟩
          · simp only [Instr.sliceAt, Instr.slice, Sem.run_bind, run_underlying hu, Result.andThen_ok, hr, run_sizeT hz, Sem.run_pure, if_neg hml, Option.map_some, addr_add]
          · rw [if_neg hml]
            exact rel_slice_of hl (.inr (by omega)) (by omega)
  · cases ra <;> simp only [sliceA, reduceCtorEq] at hv
    rename_i b o l0 hl
    split at hv
    · rename_i l i m hb
      cases hv
      have hr := run_bounds (P := P) false hb k1 k2 k3 w
      obtain ⟨h1, h2, h3, _, _⟩ := bounds_le (Nat.le_refl n) hb
      by_cases hml : m = l
      · refine ⟨.slice (some ⟨l0.row, l0.base + o, none⟩) (i - l) (m - l), ?_, ?_⟩
        · simp only [Instr.sliceAt, Instr.sureAddr, Sem.run_bind, run_underlying hu, Result.andThen_ok, hr, run_sizeT hz, Sem.run_pure, if_pos hml]
        · rw [if_pos hml]
          exact rel_slice_of hl (.inr rfl) (by omega)
      · refine ⟨.slice (some ⟨l0.row, l0.base + o + l * z, none⟩) (i - l) (m - l), ?_, ?_⟩
        · simp only [Instr.sliceAt, Instr.sureAddr, Sem.run_bind, run_underlying hu, Result.andThen_ok, hr, run_sizeT hz, Sem.run_pure, if_neg hml, addr_add]
        · rw [if_neg hml]
          exact rel_slice_of hl (.inr (by omega)) (by omega)
    · cases hv

end
end Go.Lite
