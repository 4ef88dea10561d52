/-
  LITE, part s: a function, whole. Own work of this session.
-/
import Derived.Test.YtchffjnmkpedkaaLr
namespace Go.Lite
open Go.RowKit

section
variable {P : Program}

theorem frameOf_get : ∀ (l : List AV) (i t : Nat), (frameOf i l).get t = if i ≤ t then l[t - i]? else none
  | [], i, t => by simp [frameOf]
  | v :: l, i, t => by
    simp only [frameOf]
    rw [T.get_set, frameOf_get l (i + 1) t]
    by_cases h1 : t = i
    · subst h1; simp
    · rw [if_neg h1]
      by_cases h2 : i ≤ t
      · rw [if_pos (by omega), if_pos h2, show t - i = (t - (i + 1)) + 1 by omega]; simp
      · rw [if_neg (by omega), if_neg h2]

/-- What a contract of the evaluator's function is worth. -/
def DefOk (P : Program) (f : FuncId) : Def → Prop
  | .text s => Enters P f ∧ ∃ fn, P.funcs[f]? = some fn ∧ lowerFn P fn = some s
  | .prim c => Enters P f ∧ ∀ args h v h', c args h = some (v, h') → ∀ ρ w (args' : Array Value), HRel ρ h w → RelL ρ args args'.toList → Calls P f args' w (Back ρ h w v h')
  | .ext c => ∀ args h v h', c args h = some (v, h') → ∀ ρ w (args' : Array Value), HRel ρ h w → RelL ρ args args'.toList → ∃ u w' ρ', (callFunc f args').run P w = .ok (.value u) w' ∧ Rel ρ' v u ∧ HRel ρ' h' w' ∧ Step ρ h w ρ' h' w'

/-- A result, as the model reads it. -/
def resOf (tmps : Array Value) : ResultVar → Sem Value
  | .tmp t => pure (tmps.getD t undef)
  | .cell x t => do loadVar t (← asAddr (tmps.getD x undef))

theorem results_eq (fn : Func) (tmps : Array Value) : results fn tmps = (do let vs ← fn.results.mapM (resOf tmps); pure (if h : vs.size = 1 then vs[0] else .tuple vs) : Sem Value) := by
  unfold results
  congr 1

theorem lowerRes_ok {ρ : Ren} {h : Hp} {w : World} (H : HRel ρ h w) {nt : Nat} {fr : Fr} {a : Act} (F : FrRel ρ nt fr a) : ∀ {l : List ResultVar} {r : List RV} {vs : List AV}, lowerRes P l = some r → resA fr h r = some vs →
    ∃ us : List Value, (l.mapM (resOf a.tmps)).run P w = .ok us w ∧ RelL ρ vs us
  | [], r, vs, h1, h2 => by
    simp only [lowerRes, Option.some.injEq] at h1; subst h1
    simp only [resA, Option.some.injEq] at h2; subst h2
    exact ⟨[], by simp, .nil⟩
  | .tmp t :: l, r, vs, h1, h2 => by
    simp only [lowerRes, Option.map_eq_some_iff] at h1
    obtain ⟨r', e1, rfl⟩ := h1
    simp only [resA] at h2
    split at h2
    case h_2 => cases h2
    rename_i v vs' e2 e3
    cases h2
    obtain ⟨us, q1, q2⟩ := lowerRes_ok H F e1 e3
    obtain ⟨u, hu, r⟩ := F.2 t v e2
    refine ⟨u :: us, ?_, .cons _ _ _ _ r q2⟩
    rw [List.mapM_cons]
    simp only [resOf, Sem.run_bind, Sem.run_pure, Result.andThen_ok, q1]
    rw [show a.tmps.getD t undef = u by simp [Array.getD_eq_getD_getElem?, hu]]
  | .cell x t :: l, r, vs, h1, h2 => by
    simp only [lowerRes] at h1
    split at h1
    case h_2 => cases h1
    rename_i g r' eg e1
    cases h1
    simp only [resA] at h2
    split at h2
    case h_2 => cases h2
    rename_i v vs' e2 e3
    cases h2
    split at e2
    case h_2 => cases e2
    rename_i p hp
    obtain ⟨us, q1, q2⟩ := lowerRes_ok H F e1 e3
    obtain ⟨u0, hu0, r0⟩ := F.2 x _ hp
    obtain ⟨lc, hlc, hu0'⟩ := rel_ptrv r0
    obtain ⟨u, hu, r⟩ := loadVar_ok (P := P) H eg hlc e2
    refine ⟨u :: us, ?_, .cons _ _ _ _ r q2⟩
    rw [List.mapM_cons]
    have hx : a.tmps.getD x undef = .pointer (some ⟨lc.row, lc.base + p.2, none⟩) := by simp [Array.getD_eq_getD_getElem?, hu0, hu0']
    simp only [resOf, hx, asAddr, Sem.run_bind, Sem.run_pure, Result.andThen_ok, hu, q1]

theorem results_ok {ρ : Ren} {h : Hp} {w : World} (H : HRel ρ h w) {nt : Nat} {fr : Fr} {a : Act} (F : FrRel ρ nt fr a) {fn : Func} {r : List RV} {vs : List AV} (h1 : lowerRes P fn.results.toList = some r) (h2 : resA fr h r = some vs) :
    ∃ u, (results fn a.tmps).run P w = .ok u w ∧ Rel ρ (oneOrTuple vs) u := by
  obtain ⟨us, q1, q2⟩ := lowerRes_ok (P := P) H F h1 h2
  have hm : (fn.results.mapM (resOf a.tmps)).run P w = .ok us.toArray w := by
    have : fn.results = fn.results.toList.toArray := by simp
    rw [this, List.mapM_toArray]
    simp only [Sem.run_map]
    rw [q1]; rfl
  match vs, us, q2 with
  | [], _, .nil => exact ⟨.tuple #[], by rw [results_eq]; simp only [Sem.run_bind, hm, Result.andThen_ok]; rfl, .tuple _ _ .nil⟩
  | [v], _, .cons _ u _ _ r .nil => exact ⟨u, by rw [results_eq]; simp only [Sem.run_bind, hm, Result.andThen_ok]; rfl, r⟩
  | v1 :: v2 :: vs, _, .cons _ u1 _ _ r1 (.cons _ u2 _ us r2 rs) =>
    refine ⟨.tuple (u1 :: u2 :: us).toArray, ?_, .tuple _ _ (by simpa using .cons _ _ _ _ r1 (.cons _ _ _ _ r2 rs))⟩
    rw [results_eq]
    simp only [Sem.run_bind, hm, Result.andThen_ok]
    simp

/-- The evaluator's functions are the model's. -/
theorem evalFn_ok (hm : P.follows .mixedOrders = true) {F : FuncId → Option Def} (hF : ∀ f d, F f = some d → DefOk P f d) : ∀ n, CalleeOk P (evalFn F n)
  | 0 => by intro f args h v h' he; simp [evalFn] at he
  | n + 1 => by
    intro f args h v h' he
    simp only [evalFn] at he
    split at he
    · cases he
    · rename_i c hc
      have hd := hF f _ hc
      exact .inl ⟨hd.1, fun ρ w args' H r => hd.2 args h v h' he ρ w args' H r⟩
    · rename_i c hc
      have hd := hF f _ hc
      exact .inr fun ρ w args' H r => hd args h v h' he ρ w args' H r
    · rename_i s hs
      have hd := hF f _ hs
      refine .inl ⟨hd.1, ?_⟩
      intro ρ w args' H r
      obtain ⟨fn, hfn, hlow⟩ := hd.2
      unfold lowerFn at hlow
      split at hlow
      case h_2 => cases hlow
      rename_i c hbody
      split at hlow
      case h_2 => cases hlow
      rename_i rv sb e1 e2
      cases hlow
      simp only at he
      have ih := evalFn_ok hm hF n
      refine calls_of_wp hfn hbody ?_
      have F0 : FrRel ρ fn.ntmps (frameOf 0 args) { tmps := args' ++ Array.replicate (fn.ntmps - args'.size) undef, defers := [] } := by
        refine ⟨by simp; omega, ?_⟩
        intro t x hx
        rw [frameOf_get, if_pos (Nat.zero_le _)] at hx
        obtain ⟨u, hu, r'⟩ := RelL.get r hx
        refine ⟨u, ?_, r'⟩
        have hlt : t < args'.size := by
          rcases Nat.lt_or_ge t args'.size with hh | hh
          · exact hh
          · rw [List.getElem?_eq_none (by simpa using hh)] at hu; cases hu
        rw [Array.getElem?_append_left hlt]
        simpa using hu
      have fin : ∀ (x : X) (fr' : Fr) (h1 : Hp), evalS (evalFn F n) n sb (frameOf 0 args) h = some (x, fr', h1) → (x = .normal ∨ x = .ret) → ∀ l, resA fr' h1 rv = some l → v = oneOrTuple l → h' = h1 →
          c.wp P (bodyPost P fn (Back ρ h w v h')) { tmps := args' ++ Array.replicate (fn.ntmps - args'.size) undef, defers := [] } w := by
        intro x fr' h1 hev hx l hres hv hh
        subst hv; subst hh
        refine evalS_ok ih hm n c sb e2 hev H F0 ?_
        intro ρ' w' a' H' F' st hd
        obtain ⟨u, hu, ru⟩ := results_ok (P := P) H' F' e1 hres
        have hback : Back ρ h w (oneOrTuple l) h' (.returned u) w' := ⟨u, ρ', rfl, ru, H', st⟩
        rcases hx with rfl | rfl
        · exact ⟨hd, u, hu, hback⟩
        · exact ⟨hd, u, hu, hback⟩
      split at he
      · rename_i fr' h1 hev
        rw [Option.map_eq_some_iff] at he
        obtain ⟨l, hl, he⟩ := he
        cases he
        exact fin .normal fr' _ hev (.inl rfl) l hl rfl rfl
      · rename_i fr' h1 hev
        rw [Option.map_eq_some_iff] at he
        obtain ⟨l, hl, he⟩ := he
        cases he
        exact fin .ret fr' _ hev (.inr rfl) l hl rfl rfl
      · cases he

end
end Go.Lite
