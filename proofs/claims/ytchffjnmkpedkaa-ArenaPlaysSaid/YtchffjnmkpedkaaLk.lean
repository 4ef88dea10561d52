/-
  LITE, part k: calls and builtins. Own work of this session.
-/
import Derived.Test.YtchffjnmkpedkaaLj
import Derived.MapKept
set_option linter.unusedSectionVars false
set_option linter.unusedSimpArgs false
set_option linter.unusedVariables false
namespace Go.Lite
set_option linter.unusedSectionVars false
set_option linter.unusedSimpArgs false
set_option linter.unusedVariables false
open Go.RowKit
variable [Ctx]

section
variable {P : Program} {ρ : Ren} {h h' : Hp} {w : World} {fr : Fr} {env : Operand → Value}

theorem rel_intv {v : Value} {k : IntKind} {n : Int} (r : Rel ρ (.int k n) v) : v = .int k n := by cases r; rfl
theorem rel_boolv {v : Value} {b : Bool} (r : Rel ρ (.bool b) v) : v = .bool b := by cases r; rfl
theorem rel_strv {v : Value} {s : ByteArray} (r : Rel ρ (.str s) v) : v = .string s := by cases r; rfl
theorem rel_ptrv {v : Value} {p : Nat × Nat} (r : Rel ρ (.ptr (some p)) v) : ∃ l, ρ p.1 = some l ∧ v = .pointer (some ⟨l.row, l.base + p.2, none⟩) := by
  cases r with
  | ptr b o l hl => exact ⟨l, hl, rfl⟩

/-- A builtin's value, and what it leaves. -/
def ValOk (P : Program) (ρ : Ren) (h : Hp) (w : World) (s : Sem Value) (out : Out) (h' : Hp) : Prop :=
  ∃ v v' w' ρ', out = .val v ∧ s.run P w = .ok v' w' ∧ Rel ρ' v v' ∧ HRel ρ' h' w' ∧ Step ρ h w ρ' h' w'

theorem ValOk.same {s : Sem Value} {v : AV} {v' : Value} (H : HRel ρ h w) (hs : s.run P w = .ok v' w) (r : Rel ρ v v') : ValOk P ρ h w s (.val v) h :=
  ⟨v, v', w, ρ, rfl, hs, r, H, Step.refl _ _ _⟩

theorem ValOk.op {s : Sem Value} {out : Out} (hv : ValOk P ρ h w s out h') : OpOk P ρ h w (do pure (Next.value (← s)) : Sem Next) out h' := by
  obtain ⟨v, v', w', ρ', rfl, h1, h2, h3, h4⟩ := hv
  exact ⟨.value v', v', w', ρ', run_v h1, .inl rfl, h2, h3, h4⟩

theorem entsL_length : ∀ l : List MapEntry, (entsL l).length = 2 * l.length
  | [] => rfl
  | e :: l => by simp only [entsL, List.length_cons, entsL_length l]; omega

theorem len_ok {t : TypeId} {X : Operand} {x : O} (hl : lowerLen P t X = some x) (H : HRel ρ h w) {out : Out} (he : evalO fr h x = some (out, h')) (hX : EnvOk ρ fr env X) {at' : Array TypeId} (h0 : at'[0]? = some t) (ty : TypeId) :
    ValOk P ρ h w (Builtin.len_ at' ty #[env X]) out h' := by
  unfold lowerLen at hl
  split at hl
  · rename_i hu
    rw [Option.map_eq_some_iff] at hl
    obtain ⟨a, h1, rfl⟩ := hl
    simp only [evalO] at he
    split at he
    case h_2 => cases he
    rename_i v e1
    rw [Option.map_eq_some_iff] at he
    obtain ⟨y, hy, he⟩ := he
    cases he
    have r := hX _ _ h1 e1
    cases v <;> simp only [lenA, reduceCtorEq, Option.some.injEq] at hy
    subst hy
    rw [rel_strv r]
    exact ValOk.same H (by simp [Builtin.len_, h0, run_underlying hu, goInt]) (.int _ _)
  · rename_i e hu
    rw [Option.map_eq_some_iff] at hl
    obtain ⟨a, h1, rfl⟩ := hl
    simp only [evalO] at he
    split at he
    case h_2 => cases he
    rename_i v e1
    rw [Option.map_eq_some_iff] at he
    obtain ⟨y, hy, he⟩ := he
    cases he
    have r := hX _ _ h1 e1
    cases v <;> simp only [lenA, reduceCtorEq, Option.some.injEq] at hy
    subst hy
    cases hx : env X <;> rw [hx] at r <;> cases r
    all_goals exact ValOk.same H (by simp [Builtin.len_, h0, run_underlying hu, goInt]) (.int _ _)
  · rename_i n e hu
    cases hl
    simp only [evalO, Option.some.injEq, Prod.mk.injEq] at he
    obtain ⟨rfl, rfl⟩ := he
    exact ValOk.same H (by simp [Builtin.len_, h0, run_underlying hu, goInt]) (.int _ _)
  · rename_i kt et hu
    rw [Option.map_eq_some_iff] at hl
    obtain ⟨a, h1, rfl⟩ := hl
    simp only [evalO] at he
    split at he
    · rename_i e1
      cases he
      have r := hX _ _ h1 e1
      cases hx : env X <;> rw [hx] at r <;> cases r
      exact ValOk.same H (by simp [Builtin.len_, h0, run_underlying hu, goInt]) (.int _ _)
    · rename_i b e1
      split at he
      case h_2 => cases he
      rename_i cells clk bs hblk
      cases he
      have r := hX _ _ h1 e1
      cases hx : env X <;> rw [hx] at r <;> cases r
      rename_i l hl
      obtain ⟨es, q1, _, q2⟩ := (H.blk b _ l hblk hl).2.1 _ _ rfl
      have hlen : cells.length / 2 = es.size := by
        rw [RelL.length q2, entsL_length]; simp
      rw [hlen]
      exact ValOk.same H (by simp [Builtin.len_, h0, run_underlying hu, goInt, Go.MapKept.run_getObj_map q1]) (.int _ _)
    · cases he
  · cases hl

theorem cap_ok {t : TypeId} {X : Operand} {x : O} (hl : lowerCap P t X = some x) (H : HRel ρ h w) {out : Out} (he : evalO fr h x = some (out, h')) (hX : EnvOk ρ fr env X) {at' : Array TypeId} (h0 : at'[0]? = some t) (ty : TypeId) :
    ValOk P ρ h w (Builtin.cap_ at' ty #[env X]) out h' := by
  unfold lowerCap at hl
  split at hl
  · rename_i e hu
    rw [Option.map_eq_some_iff] at hl
    obtain ⟨a, h1, rfl⟩ := hl
    simp only [evalO] at he
    split at he
    case h_2 => cases he
    rename_i v e1
    rw [Option.map_eq_some_iff] at he
    obtain ⟨y, hy, he⟩ := he
    cases he
    have r := hX _ _ h1 e1
    unfold capA at hy
    split at hy
    · cases hy
      cases hx : env X <;> rw [hx] at r <;> cases r
      all_goals exact ValOk.same H (by simp [Builtin.cap_, h0, run_underlying hu, goInt]) (.int _ _)
    · cases hy
  · cases hl

theorem appendB_ok {t u : TypeId} {X Y : Operand} {x : O} (hl : lowerAppend P t u X Y = some x) (H : HRel ρ h w) {out : Out} (he : evalO fr h x = some (out, h')) (hX : EnvOk ρ fr env X) (hY : EnvOk ρ fr env Y)
    {at' : Array TypeId} (h0 : at'[0]? = some t) (h1 : at'[1]? = some u) (ty : TypeId) : ValOk P ρ h w (Builtin.append_ at' ty #[env X, env Y]) out h' := by
  unfold lowerAppend at hl
  split at hl
  case h_2 => cases hl
  rename_i e d a b hu hd e1 e2
  split at hl
  case h_2 => cases hl
  rename_i i hi
  split at hl
  · rename_i hint
    split at hl
    case h_2 => cases hl
    rename_i zl hzl
    split at hl
    case isFalse => cases hl
    rename_i hz
    cases hl
    obtain ⟨i', z, hi', hz1, hz2⟩ := zeroT_spec hzl
    rw [hi] at hi'; cases hi'
    simp only [evalO] at he
    split at he
    case h_2 => cases he
    rename_i va k n e3 e4
    rw [Option.map_eq_some_iff] at he
    obtain ⟨⟨v, h1'⟩, hv, he⟩ := he
    cases he
    cases d <;> simp only [isIntD, Bool.false_eq_true] at hint
    rw [rel_intv (hY _ _ e2 e4)]
    obtain ⟨v', w', ρ', q1, q2, q3, q4⟩ := appendZ_ok (P := P) H h0 h1 hu hd hi hz1 hz2 hz (hX _ _ e1 e3) hv (ty := ty)
    exact ⟨v, v', w', ρ', rfl, q1, q2, q3, q4⟩
  · rename_i hint
    split at hl
    case h_2 => cases hl
    rename_i z hz1
    split at hl
    case isFalse => cases hl
    rename_i hz
    cases hl
    simp only [evalO] at he
    split at he
    case h_2 => cases he
    rename_i va vb e3 e4
    rw [Option.map_eq_some_iff] at he
    obtain ⟨⟨v, h1'⟩, hv, he⟩ := he
    cases he
    obtain ⟨v', w', ρ', q1, q2, q3, q4⟩ := append_ok (P := P) H h0 h1 hu hd (by rintro k rfl; simp [isIntD] at hint) hi hz1 hz (hX _ _ e1 e3) (hY _ _ e2 e4) hv (ty := ty)
    exact ⟨v, v', w', ρ', rfl, q1, q2, q3, q4⟩

theorem copyB_ok {t : TypeId} {X Y : Operand} {x : O} (hl : lowerCopy P t X Y = some x) (H : HRel ρ h w) {out : Out} (he : evalO fr h x = some (out, h')) (hX : EnvOk ρ fr env X) (hY : EnvOk ρ fr env Y)
    {at' : Array TypeId} (h0 : at'[0]? = some t) (ty : TypeId) : ValOk P ρ h w (Builtin.copy_ at' ty #[env X, env Y]) out h' := by
  unfold lowerCopy at hl
  split at hl
  case h_2 => cases hl
  rename_i e a b hu e1 e2
  rw [Option.map_eq_some_iff] at hl
  obtain ⟨esz, hs, rfl⟩ := hl
  simp only [evalO] at he
  split at he
  case h_2 => cases he
  rename_i base n c vb e3 e4
  split at he
  case h_2 => cases he
  rename_i k hk
  split at he
  · rename_i cs a0 hc
    rw [Option.map_eq_some_iff] at he
    obtain ⟨h1, hw, he⟩ := he
    cases he
    obtain ⟨w', q1, q2, q3⟩ := copy_ok (P := P) H h0 hu hs (hX _ _ e1 e3) (hY _ _ e2 e4) hk hc (h' := h') hw (ty := ty)
    exact ⟨_, _, w', ρ, rfl, q1, .int _ _, q2, q3⟩
  · rename_i cs hc
    cases he
    obtain ⟨w', q1, q2, q3⟩ := copy_ok (P := P) H h0 hu hs (hX _ _ e1 e3) (hY _ _ e2 e4) hk hc (h' := h) rfl (ty := ty)
    exact ⟨_, _, w', ρ, rfl, q1, .int _ _, q2, q3⟩
  · cases he

theorem mm_ok {mx : Bool} {X Y : Operand} {x : O} (hl : lowerMM mx X Y = some x) (H : HRel ρ h w) {out : Out} (he : evalO fr h x = some (out, h')) (hX : EnvOk ρ fr env X) (hY : EnvOk ρ fr env Y)
    (at' : Array TypeId) (ty : TypeId) : ValOk P ρ h w (if mx then Builtin.max_ at' ty #[env X, env Y] else Builtin.min_ at' ty #[env X, env Y]) out h' := by
  unfold lowerMM at hl
  split at hl
  case h_2 => cases hl
  rename_i a b e1 e2
  cases hl
  simp only [evalO] at he
  split at he
  case h_2 => cases he
  rename_i k n k' m e3 e4
  split at he
  case isFalse => cases he
  rename_i hk
  subst hk
  simp only [Option.some.injEq, Prod.mk.injEq] at he
  obtain ⟨rfl, rfl⟩ := he
  rw [rel_intv (hX _ _ e1 e3), rel_intv (hY _ _ e2 e4)]
  cases mx
  · exact ValOk.same H (by simp [Builtin.min_, Builtin.min2]) (.int _ _)
  · exact ValOk.same H (by simp [Builtin.max_, Builtin.max2]) (.int _ _)

end
end Go.Lite
