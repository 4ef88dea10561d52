/-
  LITE, part i: append of zeros, copy, make. Own work of this session.
-/
import Derived.Test.YtchffjnmkpedkaaLh
set_option linter.unusedSectionVars false
set_option linter.unusedSimpArgs false
set_option linter.unusedVariables false
namespace Go.Lite
set_option linter.unusedSectionVars false
set_option linter.unusedSimpArgs false
set_option linter.unusedVariables false
open Go.RowKit
variable [Ctx]

section
variable {P : Program} {ρ : Ren} {h : Hp} {w : World}

theorem zeroCells_toList (z : Array Value) : ∀ n, (Builtin.zeroCells z n).toList = (List.replicate n z.toList).flatten
  | 0 => by simp [Builtin.zeroCells]
  | n + 1 => by
    have ih := zeroCells_toList z n
    simp only [Builtin.zeroCells, Array.toList_map, Array.toList_range] at ih ⊢
    rw [Nat.add_mul, Nat.one_mul, List.range_add, List.map_append, ih, List.replicate_succ', List.flatten_append]
    congr 1
    simp only [List.map_map, List.flatten_cons, List.flatten_nil, List.append_nil]
    apply List.ext_getElem?
    intro i
    simp only [List.getElem?_map]
    by_cases hi : i < z.size
    · rw [List.getElem?_range hi]
      simp [Nat.mod_eq_of_lt hi, Array.getElem!_eq_getD, hi, Nat.add_mod]
    · rw [List.getElem?_eq_none (by simp; omega), List.getElem?_eq_none (by simp; omega)]; rfl

theorem zeroT_spec {t : TypeId} {l : List AV} (hz : zeroT P t = some l) : ∃ i z, P.info? t = some i ∧ i.zero = some z ∧ ofCells z.cells.toList = some l := by
  unfold zeroT at hz
  split at hz
  · rename_i i hi
    split at hz
    · rename_i z hz0; exact ⟨i, z, hi, hz0, hz⟩
    · cases hz
  · cases hz

theorem wrap_id {n : Int} (h0 : 0 ≤ n) (h1 : n < 4611686018427387904) : IntKind.i64.wrap n = n := by
  unfold IntKind.wrap
  have e1 : (2 ^ IntKind.bits .i64 : Int) = 18446744073709551616 := by rfl
  have e2 : (2 ^ (IntKind.bits .i64 - 1) : Int) = 9223372036854775808 := by rfl
  simp only [e1, e2]
  have : n % 18446744073709551616 = n := Int.emod_eq_of_lt h0 (by omega)
  rw [this]
  have h3 : ¬ (IntKind.signed .i64 && decide (n ≥ 9223372036854775808)) = true := by
    simp; omega
  rw [if_neg h3]

theorem appendZ_ok (H : HRel ρ h w) {t u e ty : TypeId} {ku : IntKind} {i : TypeInfo} {z : Value} {zl : List AV} {at' : Array TypeId} (h0 : at'[0]? = some t) (h1 : at'[1]? = some u) (hu : P.underlying t = some (.slice e)) (hd : P.underlying u = some (.int ku))
    (hi : P.info? e = some i) (hz : i.zero = some z) (hzl : ofCells z.cells.toList = some zl) (hzs : zl.length = i.size)
    {a : AV} {va : Value} {kx : IntKind} {x : Int} (ra : Rel ρ a va) {v : AV} {h' : Hp} (hv : appendZA h i.bytes zl a x = some (v, h')) :
    ∃ v' w' ρ', (Builtin.append_ at' ty #[va, .int kx x]).run P w = .ok v' w' ∧ Rel ρ' v v' ∧ HRel ρ' h' w' ∧ Step ρ h w ρ' h' w' := by
  unfold appendZA at hv
  split at hv
  case h_2 => cases hv
  rename_i base n cap
  split at hv
  case isFalse => cases hv
  rename_i hx0
  have hzr := ofCells_rel (ρ := ρ) hzl
  have hzsz : z.cells.size = i.size := by rw [← hzs, RelL.length hzr.1]; simp
  obtain ⟨k, rfl⟩ := Int.eq_ofNat_of_zero_le hx0
  have hbody : ∀ (abase : Option Addr) (acap : Nat), k < 4611686018427387904 → k * i.bytes ≤ maxLenB → va = .slice abase n acap → (Builtin.append_ at' ty #[va, .int kx k]).run P w =
      (if n + k ≤ acap then
        ((match abase with | some a => storeCells (a.add (n * i.size)) (Builtin.zeroCells z.cells k).toList | none => pure () : Sem Unit).run P w).andThen fun _ w2 => .ok (.slice abase (n + k) acap) w2
      else ((do
        if ((n + k : Nat) : Int) > IntKind.i64.max then runtimePanic (.error "growslice: len out of range")
        if Builtin.nextslicecap (n + k) acap * i.bytes > 2 ^ 48 then runtimePanic (.error "growslice: len out of range")
        let newCap ← choose (.appendCap (n + k) acap e)
        askRoom (newCap * i.bytes)
        let old ← Builtin.firstCells i.size n va
        let rest := Builtin.zeroCells z.cells (newCap - (n + k))
        pure (.slice (some (← newRow e (old ++ Builtin.zeroCells z.cells k ++ rest))) (n + k) newCap) : Sem Value).run P w)) := by
    intro abase acap hk1 hk2 hva
    subst hva
    unfold Builtin.append_
    have hw : IntKind.i64.wrap ((k : Nat) : Int) = (k : Int) := wrap_id (by omega) (by omega)
    have e2 : ¬ ((k : Int) * (i.bytes : Int) > 2 ^ 48) := by
      have : ((k * i.bytes : Nat) : Int) ≤ ((maxLenB : Nat) : Int) := Int.ofNat_le.2 hk2
      rw [Int.natCast_mul] at this
      have e0 : ((maxLenB : Nat) : Int) = 140737488355328 := rfl
      generalize (k : Int) * (i.bytes : Int) = q at *
      omega
    have e3 : ¬ ((k : Int) < 0) := by omega
    have hempty : ∀ w0 : World, ((if k * i.size = 0 then pure #[] else do pure (Builtin.zeroCells (← zeroValue e).cells k) : Sem (Array Value)).run P w0) = .ok (Builtin.zeroCells z.cells k) w0 := by
      intro w0
      split
      · rename_i hk0
        have : Builtin.zeroCells z.cells k = #[] := by
          apply Array.eq_empty_of_size_eq_zero; rw [zeroCells_size, hzsz]; exact hk0
        rw [this]; rfl
      · simp [run_zero hi hz]
    simp only [h0, h1, List.getElem?_toArray, List.getElem?_cons_zero, List.getElem?_cons_succ, Sem.run_bind, run_underlying hu, Result.andThen_ok, run_size hi, run_underlying hd, Sem.run_pure, if_true, asInt, asIntOf, hw,
      Sem.run_ite, if_neg e3, run_info hi, if_neg e2, Int.toNat_natCast, Bool.not_true, Bool.false_eq_true, if_false, true_or, and_true, run_zero hi hz]
    by_cases hle : n + k ≤ acap
    · simp only [if_pos hle]
      have := hempty w
      simp only [Sem.run_ite, Sem.run_pure, Sem.run_bind, run_zero hi hz, Result.andThen_ok] at this
      rw [this]
      cases abase <;> simp
    · simp only [if_neg hle]
      have := fun w0 => hempty w0
      simp only [Sem.run_ite, Sem.run_pure, Sem.run_bind, run_zero hi hz, Result.andThen_ok] at this
      by_cases g1 : ((n + k : Nat) : Int) > IntKind.i64.max
      · simp only [if_pos g1]
        simp [runtimePanic, Sem.run_bind]
      · simp only [if_neg g1]
        by_cases g2 : Builtin.nextslicecap (n + k) acap * i.bytes > 2 ^ 48
        · simp only [if_pos g2]
          simp [runtimePanic, Sem.run_bind]
        · simp only [if_neg g2]
          congr 1; funext nc w1
          congr 1; funext _ w2
          congr 1; funext old w3
          rw [this]; simp
  by_cases hk0 : k = 0
  · subst hk0
    rw [if_pos (by rfl)] at hv
    simp only [Option.some.injEq, Prod.mk.injEq] at hv
    obtain ⟨rfl, rfl⟩ := hv
    obtain ⟨abase, acap, hva, hle⟩ : ∃ abase acap, va = .slice abase n acap ∧ n ≤ acap := by
      cases ra with
      | sliceNil => exact ⟨none, 0, rfl, Nat.le_refl _⟩
      | slice b o n' c off l hl hoff hnc => exact ⟨_, c, rfl, hnc⟩
      | sliceG b o n' e0 c off l hl hoff hnc htot => exact ⟨_, c, rfl, hnc⟩
    refine ⟨va, w, ρ, ?_, ra, H, Step.refl _ _ _⟩
    rw [hbody abase acap (by omega) (by unfold maxLenB; omega) hva, if_pos (by omega)]
    subst hva
    have : (Builtin.zeroCells z.cells 0).toList = [] := by simp [Builtin.zeroCells]
    rw [this]
    cases abase <;> simp [Go.storeCells]
  · rw [if_neg (by omega)] at hv
    split at hv
    case isFalse => cases hv
    rename_i hfit
    simp only [Int.toNat_natCast] at hfit hv
    split at hv
    case h_2 => cases hv
    rename_i old hold
    split at hv
    case isFalse => cases hv
    rename_i hcond
    obtain ⟨hone, hol⟩ := hcond
    rw [hzs] at hold hol hv
    have hml : ((List.replicate k zl).flatten).length = k * i.size := by simp [hzs]
    have hur : RelL ρ (List.replicate k zl).flatten (Builtin.zeroCells z.cells k).toList := by
      rw [zeroCells_toList]; exact RelL.flatten_replicate hzr.1 k
    have hone' : ((List.replicate k zl).flatten).all AV.one = true := by
      rw [List.all_eq_true] at hone ⊢
      intro q hq
      rw [List.mem_flatten] at hq
      obtain ⟨q1, hq1, hq2⟩ := hq
      rw [List.mem_replicate] at hq1
      exact hone q (hq1.2 ▸ hq2)
    obtain ⟨ous, hous, hor⟩ := firstA_ok (P := P) H.drew ra hold rfl (Nat.le_refl _)
    obtain ⟨abase, acap, hva, hnle, hcase⟩ := growA_ok (P := P) H ra hur hone' hml hk0 hold hor hol hv e z.cells hzsz
    have hb1 : k < 4611686018427387904 := by have := hfit.2; unfold maxLenB at this; omega
    have hb2 : k * i.bytes ≤ maxLenB := Nat.le_trans (Nat.mul_le_mul_right _ (by omega)) hfit.1
    rcases hcase with ⟨hle, w', q1, ρ', q2, q3, q4⟩ | ⟨hle, hgrow⟩
    · refine ⟨.slice abase (n + k) acap, w', ρ', ?_, q2, q3, q4⟩
      rw [hbody abase acap hb1 hb2 hva, if_pos hle]
      cases abase <;> (simp only at q1 ⊢; rw [q1]; rfl)
    · obtain ⟨newCap, hch, hcap⟩ := run_appendCap P w (n + k) acap e
      obtain ⟨ρ', q2, q3, q4⟩ := hgrow newCap w.drew ⟨w.drawn + 1, rfl⟩ hcap
      refine ⟨_, _, ρ', ?_, q2, q3, q4⟩
      rw [hbody abase acap hb1 hb2 hva, if_neg hle]
      have e1 : ¬ (((n + k : Nat) : Int) > IntKind.i64.max) := by
        have : IntKind.i64.max = 9223372036854775807 := by rfl
        have := hfit.2
        unfold maxLenB at this
        omega
      have e2 : ¬ Builtin.nextslicecap (n + k) acap * i.bytes > 2 ^ 48 := by
        have := growslice_fits (need := n + k) (old := acap) (bytes := i.bytes) (by omega) hfit.1
        omega
      simp only [Sem.run_bind, if_neg e1, if_neg e2, Sem.run_pure, Result.andThen_ok, hch, run_askRoom, hous, newRow, run_newObj]
      rfl

theorem copy_ok (H : HRel ρ h w) {t e ty : TypeId} {esz : Nat} {at' : Array TypeId} (h0 : at'[0]? = some t) (hu : P.underlying t = some (.slice e)) (hs : sizeT P e = some esz)
    {base : Option (Nat × Nat)} {n k : Nat} {cap : Cap} {b : AV} {va vb : Value} (ra : Rel ρ (.slice base n cap) va) (rb : Rel ρ b vb) (hk : lenOfA b = some k) {cs : List AV} (hc : firstA h esz (Nat.min k n) b = some cs)
    {h' : Hp} (hw : match base with | some a => h.write a cs = some h' | none => h' = h) :
    ∃ w', (Builtin.copy_ at' ty #[va, vb]).run P w = .ok (goInt (Nat.min k n : Nat)) w' ∧ HRel ρ h' w' ∧ Step ρ h w ρ h' w' := by
  have hl := lenOfA_ok (P := P) (w := w) rb hk
  have hle : Nat.min k n ≤ k := Nat.min_le_left k n
  obtain ⟨us, hus, hur⟩ := firstA_ok (P := P) H rb hc hk hle
  have hbody : ∀ (abase : Option Addr) (acap : Nat), va = .slice abase n acap → (Builtin.copy_ at' ty #[va, vb]).run P w =
      ((match abase with | some a => storeCells a us.toList | none => pure () : Sem Unit).run P w).andThen fun _ w2 => .ok (goInt (Nat.min k n : Nat)) w2 := by
    intro abase acap hva
    subst hva
    unfold Builtin.copy_
    simp only [h0, List.getElem?_toArray, List.getElem?_cons_zero, List.getElem?_cons_succ, Sem.run_bind, run_underlying hu, Result.andThen_ok, run_sizeT hs, hl, hus]
    cases abase <;> simp
  have trivialCase : ∀ (b0 o : Nat) (l : Loc) (a : Addr), ρ b0 = some l → h.write (b0, o) cs = some h' → Nat.min k n = 0 → ∃ w', (storeCells a us.toList).run P w = .ok () w' ∧ HRel ρ h' w' ∧ Step ρ h w ρ h' w' := by
    intro b0 o l a hl0 hw0 hmin
    have hcs : cs = [] := by
      rw [hmin] at hc
      cases b <;> simp only [firstA, reduceCtorEq, Nat.zero_mul] at hc
      · simp at hc; exact hc
      · rename_i a0 _ _
        cases a0 with
        | none => simp at hc; exact hc
        | some a0 => have := (Hp.cells_get hc).1; simpa using this
    subst hcs
    have hun : us.toList = [] := by have := RelL.length hur; simpa using this.symm
    rw [hun]
    unfold Hp.write at hw0
    cases hk' : h.get b0 with
    | none => simp [hk'] at hw0
    | some blk =>
      simp only [hk'] at hw0
      split at hw0
      · cases hw0
      · split at hw0
        · simp only [List.all_nil, if_true, Option.some.injEq] at hw0
          subst hw0
          refine ⟨w, rfl, H.congr (fun x => ?_) rfl, (Step.refl ρ h w).congr (fun x => ?_) rfl⟩ <;>
          · rw [Hp.get_put]; split
            · rename_i hx; subst hx; rw [hk']; rfl
            · rfl
        · cases hw0
  cases ra with
  | sliceNil =>
    simp only at hw; subst hw
    exact ⟨w, by rw [hbody none 0 rfl]; rfl, H, Step.refl _ _ _⟩
  | slice b0 o n' c off l hl0 hoff hnc =>
    simp only at hw
    by_cases hm : Nat.min k n = 0
    · obtain ⟨w', q1, q2, q3⟩ := trivialCase b0 o l ⟨l.row, off, none⟩ hl0 hw hm
      exact ⟨w', by rw [hbody _ c rfl]; simp only [q1]; rfl, q2, q3⟩
    · obtain rfl : off = l.base + o := by
        rcases hoff with h1 | h1
        · exfalso; apply hm; have : Nat.min k n ≤ n := Nat.min_le_right k n; omega
        · exact h1
      obtain ⟨w', q1, q2, q3⟩ := write_ok (P := P) H hl0 hur hw rfl
      exact ⟨w', by rw [hbody _ c rfl]; simp only [q1]; rfl, q2, q3⟩
  | sliceG b0 o n' e0 c off l hl0 hoff hnc htot =>
    simp only at hw
    by_cases hm : Nat.min k n = 0
    · obtain ⟨w', q1, q2, q3⟩ := trivialCase b0 o l ⟨l.row, off, none⟩ hl0 hw hm
      exact ⟨w', by rw [hbody _ c rfl]; simp only [q1]; rfl, q2, q3⟩
    · obtain rfl : off = l.base + o := by
        rcases hoff with h1 | h1
        · exfalso; apply hm; have : Nat.min k n ≤ n := Nat.min_le_right k n; omega
        · exact h1
      obtain ⟨w', q1, q2, q3⟩ := write_ok (P := P) H hl0 hur hw rfl
      exact ⟨w', by rw [hbody _ c rfl]; simp only [q1]; rfl, q2, q3⟩

theorem makeSlice_ok (H : HRel ρ h w) {t e : TypeId} {i : TypeInfo} {z : Value} {zl : List AV} (hu : P.underlying t = some (.slice e)) (hi : P.info? e = some i) (hz : i.zero = some z) (hzl : ofCells z.cells.toList = some zl) (hzs : zl.length = i.size)
    {kl kc : IntKind} {n m : Nat} (hnm : n ≤ m) (hm : m * i.bytes ≤ maxLenB) (hm2 : m < 4611686018427387904) :
    ∃ v' w' ρ', (Instr.makeSlice t (.int kl n) (.int kc m)).run P w = .ok v' w' ∧ Rel ρ' (.slice (some (h.next, 0)) n (.known m)) v' ∧ HRel ρ' (h.new ⟨(List.replicate m zl).flatten, .own⟩) w' ∧
      Step ρ h w ρ' (h.new ⟨(List.replicate m zl).flatten, .own⟩) w' := by
  have hzr := ofCells_rel (ρ := ρ) hzl
  have hzsz : z.cells.size = i.size := by rw [← hzs, RelL.length hzr.1]; simp
  have hrun : (Instr.makeSlice t (.int kl n) (.int kc m)).run P w = .ok (.slice (some ⟨w.heap.size, 0, none⟩) n m) (w.alloc (.cells (Builtin.zeroCells z.cells m) e)) := by
    have w1 : IntKind.i64.wrap ((n : Nat) : Int) = n := wrap_id (by omega) (by omega)
    have w2 : IntKind.i64.wrap ((m : Nat) : Int) = m := wrap_id (by omega) (by omega)
    have t1 : ¬ ((i.bytes : Int) * (m : Int) > 2 ^ 48) := by
      have : ((m * i.bytes : Nat) : Int) ≤ ((maxLenB : Nat) : Int) := Int.ofNat_le.2 hm
      rw [Int.natCast_mul] at this
      have e0 : ((maxLenB : Nat) : Int) = 140737488355328 := rfl
      rw [Int.mul_comm]
      generalize (m : Int) * (i.bytes : Int) = q at *
      omega
    have c1 : ¬ ((decide ((m : Int) < 0) || decide ((i.bytes : Int) * (m : Int) > 2 ^ 48)) || decide ((n : Int) < 0) || decide ((n : Int) > (m : Int))) = true := by
      simp only [Bool.or_eq_true, decide_eq_true_eq]; omega
    have hz2 : m * i.size = 0 → (Array.range (m * i.size)).map (fun x => (#[] : Array Value)[x % (#[] : Array Value).size]!) = Builtin.zeroCells z.cells m := by
      intro h0
      rw [h0]
      apply Array.ext'
      rw [zeroCells_toList]
      have : (List.replicate m z.cells.toList).flatten.length = 0 := by simp [hzsz, h0]
      rw [List.eq_nil_of_length_eq_zero this]
      simp
    unfold Instr.makeSlice
    simp only [Sem.run_bind, run_underlying hu, Result.andThen_ok, asInt, asIntOf, Sem.run_pure, run_info hi, w1, w2, Sem.run_ite, if_neg c1, run_askRoom, Int.toNat_natCast, run_size hi]
    split
    · rename_i h0
      rw [hz2 h0]; rfl
    · simp only [run_zero hi hz, Result.andThen_ok, newRow, Sem.run_bind, run_newObj, Sem.run_pure, ← hzsz]; rfl
  have A := H.alloc (List.replicate m zl).flatten .own (Builtin.zeroCells z.cells m) e (fun j x hx => by
    have hr := RelL.flatten_replicate hzr.1 m
    rw [← zeroCells_toList] at hr
    obtain ⟨u, hu, r⟩ := RelL.get hr hx
    exact ⟨u, by simpa using hu, r⟩)
  exact ⟨_, _, _, hrun, .slice _ _ _ _ _ _ (Ren.add_same _ _ _) (.inr rfl) hnm, A.1, A.2⟩

end
end Go.Lite
