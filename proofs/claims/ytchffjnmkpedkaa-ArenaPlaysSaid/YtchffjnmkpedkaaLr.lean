/-
  LITE, part r: a function that the evaluator carries out comes, in the model, to what it says. Own work of this session.
-/
import Derived.Test.YtchffjnmkpedkaaLq
set_option linter.unusedSectionVars false
set_option linter.unusedSimpArgs false
set_option linter.unusedVariables false
namespace Go.Lite
set_option linter.unusedSectionVars false
set_option linter.unusedSimpArgs false
set_option linter.unusedVariables false
open Go.RowKit
variable [Ctx]

section
variable {P : Program} {call : Callee} {nt : Nat} {dok : FuncId → Bool} {rd : Option Nat}

/-! ### A region that one more operation closes -/
theorem ready_nil_all {ops : Array Oper} {listed : Array Bool} (hb : ∀ i o, ops[i]? = some o → ∀ e ∈ o.after.toList, Region.binds .any e = true → e.on < i) (hsz : listed.size = ops.size) (hr : Region.ready .any ops listed = []) :
    ∀ k, k < ops.size → listed.getD k false = true := by
  intro k
  induction k using Nat.strongRecOn with
  | _ k ih =>
    intro hk
    cases hkl : listed.getD k false with
    | true => rfl
    | false =>
      exfalso
      have hsz' : k < listed.size := by rw [hsz]; exact hk
      have hmem : k ∈ Region.ready .any ops listed := by
        unfold Region.ready
        rw [List.mem_filter]
        refine ⟨List.mem_range.2 hk, ?_⟩
        have e1 : listed.getD k true = false := by
          rw [Array.getD_eq_getD_getElem?] at hkl ⊢
          rw [Array.getElem?_eq_getElem hsz'] at hkl ⊢
          simpa using hkl
        rw [e1]
        simp only [Bool.not_false, Bool.true_and, Array.getElem?_eq_getElem hk, Option.map_some, Option.getD_some]
        rw [Array.all_eq_true_iff_forall_mem]
        intro e he
        by_cases hbe : Region.binds .any e = true
        · have := hb k _ (Array.getElem?_eq_getElem hk) e (by simpa using he) hbe
          simp [ih e.on this (by omega)]
        · simp [hbe]
      rw [hr] at hmem; cases hmem

theorem mem_ready {ops : Array Oper} {listed : Array Bool} {i : Nat} : i ∈ Region.ready .any ops listed ↔ i < ops.size ∧ listed.getD i true = false ∧ ∃ o, ops[i]? = some o ∧ ∀ e ∈ o.after.toList, Region.binds .any e = true → listed.getD e.on false = true := by
  unfold Region.ready
  rw [List.mem_filter]
  constructor
  · rintro ⟨h1, h2⟩
    have hi := List.mem_range.1 h1
    simp only [Bool.and_eq_true, Bool.not_eq_true'] at h2
    refine ⟨hi, h2.1, ops[i], Array.getElem?_eq_getElem hi, ?_⟩
    have h3 := h2.2
    rw [Array.getElem?_eq_getElem hi] at h3
    simp only [Option.map_some, Option.getD_some] at h3
    rw [Array.all_eq_true_iff_forall_mem] at h3
    intro e he hb
    have := h3 e (by simpa using he)
    simpa [hb] using this
  · rintro ⟨h1, h2, o, h3, h4⟩
    refine ⟨List.mem_range.2 h1, ?_⟩
    rw [h2, h3]
    simp only [Bool.not_false, Bool.true_and, Option.map_some, Option.getD_some]
    rw [Array.all_eq_true_iff_forall_mem]
    intro e he
    by_cases hb : Region.binds .any e = true
    · simp [h4 e (by simpa using he) hb]
    · simp [hb]

theorem oper_wpIn_mono2 {F : Fence} {n : Nat} {o : Oper} {a : Act} {w : World} {K K' : Act → World → Prop} {Q Q' : Exit → Act → World → Prop} (hQ : ∀ e a w, e ≠ .normal → Q e a w → Q' e a w) (hK : ∀ a w, K a w → K' a w) (h : o.wpIn F n P a w K Q) : o.wpIn F n P a w K' Q' := by
  unfold Oper.wpIn at *
  refine ⟨h.1, ?_⟩
  have hh := h.2
  have hlet : LetsOut Q → LetsOut Q' := fun ⟨a, w, q⟩ => ⟨a, w, hQ _ _ _ (by simp) q⟩
  generalize (o.semAt F.round a.eval).run P w = r at *
  cases r with
  | ok x w' =>
    cases x <;> simp only [Oper.uponIn] at hh ⊢ <;>
      first
        | exact hK _ _ hh
        | exact ⟨hh.1, CallsIn.mono hh.2 (fun e w'' he => by cases e <;> first | exact hK _ _ he | exact hQ _ _ _ (by simp) he | exact hlet he)⟩
        | exact ⟨hh.1, RowsIn.mono hh.2 (fun _ _ he => hK _ _ he)⟩
        | exact ⟨hh.1, RoundIn.mono hh.2 (fun e w'' he => by cases e <;> first | exact hK _ _ he | exact hQ _ _ _ (by simp) he | exact hlet he)⟩
  | halt x w' => cases x <;> simp only [Oper.uponIn] at hh ⊢ <;> first | exact hQ _ _ _ (by simp) hh | exact hh

theorem wpAnyIn_snoc {F : Fence} {n : Nat} {init : Array Oper} {o : Oper} {A : List (List Nat)} (hA : chkA (init.push o) A = true) (hall : ∀ k, k < init.size → isAnc A init.size k = true)
    (hg : ∀ (i : Nat) (o' : Oper), init[i]? = some o' → ∀ (j : Nat) (b : Bool), o'.guard = some (j, b) → j < init.size) {Q Q' : Exit → Act → World → Prop} (hQ : ∀ e a w, e ≠ .normal → Q' e a w → Q e a w)
    (hN : ∀ a w, Q' .normal a w → wpOpIn F n P (init.push o) Q init.size (Q .normal) a w) :
    ∀ (fuel : Nat) (listed : Array Bool) (a : Act) (w : World), listed.size = init.size → Closed init (fun k => listed.getD k false) → wpAnyIn F n P .any init Q' fuel listed a w → wpAnyIn F n P .any (init.push o) Q (fuel + 1) (listed.push false) a w := by
  have hget : ∀ i, i < init.size → (init.push o)[i]? = init[i]? := fun i hi => by rw [Array.getElem?_push, if_neg (by omega)]
  have hlast : (init.push o)[init.size]? = some o := by simp
  have hback : ∀ i o', init[i]? = some o' → ∀ e ∈ o'.after.toList, Region.binds .any e = true → e.on < i := by
    intro i o' ho'
    have hi : i < init.size := by
      rcases Nat.lt_or_ge i init.size with hh | hh
      · exact hh
      · rw [Array.getElem?_eq_none hh] at ho'; cases ho'
    exact (chkA_spec hA (i := i) (by rw [hget i hi]; exact ho')).1
  have hlp : ∀ (listed : Array Bool) k, k < listed.size → ∀ d, (listed.push false).getD k d = listed.getD k d := by
    intro listed k hk d
    rw [Array.getD_eq_getD_getElem?, Array.getD_eq_getD_getElem?, Array.getElem?_push, if_neg (by omega)]
  have hl0 : ∀ (listed : Array Bool), (listed.push false).getD listed.size false = false := by
    intro listed; rw [Array.getD_eq_getD_getElem?]; simp
  have hl1 : ∀ (listed : Array Bool), (listed.push false).getD listed.size true = false := by
    intro listed; rw [Array.getD_eq_getD_getElem?]; simp
  have hst : ∀ (listed : Array Bool) k, k < listed.size → listed.getD k true = listed.getD k false := by
    intro listed k hk; rw [Array.getD_eq_getD_getElem?, Array.getD_eq_getD_getElem?, Array.getElem?_eq_getElem hk]; rfl
  -- where all are listed, the last one comes up
  have fin : ∀ (m : Nat) (listed : Array Bool) (a : Act) (w : World), listed.size = init.size → (∀ k, k < init.size → listed.getD k false = true) → Q' .normal a w → wpAnyIn F n P .any (init.push o) Q (m + 1) (listed.push false) a w := by
    intro m listed a w hsz hl hq
    have hrd : init.size ∈ Region.ready .any (init.push o) (listed.push false) := by
      rw [mem_ready]
      refine ⟨by simp, by rw [← hsz]; exact hl1 listed, o, hlast, ?_⟩
      intro e he hb
      have := (chkA_spec hA hlast).1 e he hb
      rw [hlp _ _ (by omega)]
      exact hl _ this
    refine ⟨fun h => (by rw [h] at hrd; cases hrd), ?_⟩
    intro i hi
    obtain ⟨i1, i2, _⟩ := mem_ready.1 hi
    have hieq : i = init.size := by
      rcases Nat.lt_or_ge i init.size with hh | hh
      · rw [hlp _ _ (by omega), hst _ _ (by omega), hl i hh] at i2; cases i2
      · rw [Array.size_push] at i1; omega
    subst hieq
    refine wpOpIn_mono ?_ (hN a w hq)
    intro a1 w1 q1
    have hnone : Region.ready .any (init.push o) ((listed.push false).setIfInBounds init.size true) = [] := by
      rw [List.eq_nil_iff_forall_not_mem]
      intro k hk
      obtain ⟨k1, k2, _⟩ := mem_ready.1 hk
      rw [Array.getD_eq_getD_getElem?, Array.getElem?_setIfInBounds] at k2
      split at k2
      · rw [if_pos (by simp; omega)] at k2; cases k2
      · rename_i hne
        rw [← Array.getD_eq_getD_getElem?] at k2
        rw [Array.size_push] at k1
        rw [hlp _ _ (by omega), hst _ _ (by omega), hl k (by omega)] at k2; cases k2
    cases m with
    | zero => exact ⟨hnone, q1⟩
    | succ m => exact ⟨fun _ => q1, fun i hi => by rw [hnone] at hi; cases hi⟩
  intro fuel
  induction fuel with
  | zero =>
    intro listed a w hsz hcl h
    exact fin 0 listed a w hsz (ready_nil_all hback hsz h.1) h.2
  | succ fuel ih =>
    intro listed a w hsz hcl h
    by_cases hr : Region.ready .any init listed = []
    · exact fin (fuel + 1) listed a w hsz (ready_nil_all hback hsz hr) (h.1 hr)
    · have hcl' : Closed (init.push o) (fun k => (listed.push false).getD k false) := by
        intro i o' ho' hs e he hb
        change (listed.push false).getD i false = true at hs
        change (listed.push false).getD e.on false = true
        have hi : i < init.size := by
          rcases Nat.lt_trichotomy i init.size with hh | hh | hh
          · exact hh
          · rw [hh, ← hsz, hl0] at hs; cases hs
          · rw [Array.getElem?_eq_none (by simp; omega)] at ho'; cases ho'
        rw [hget i hi] at ho'
        rw [hlp _ _ (by omega)] at hs
        have := hback i o' ho' e he hb
        rw [hlp _ _ (by omega)]
        exact hcl i o' ho' hs e he hb
      have hnl : init.size ∉ Region.ready .any (init.push o) (listed.push false) := by
        intro hm
        obtain ⟨_, _, o', ho', he'⟩ := mem_ready.1 hm
        rw [hlast] at ho'; cases ho'
        apply hr
        rw [List.eq_nil_iff_forall_not_mem]
        intro k hk
        obtain ⟨k1, k2, _⟩ := mem_ready.1 hk
        have := (anc_ready hA hcl' (i := init.size) (by simp) hlast he' (hall k k1)).1
        replace this : (listed.push false).getD k false = true := this
        rw [hlp _ _ (by omega)] at this
        rw [hst _ _ (by omega), this] at k2; cases k2
      obtain ⟨x, hx⟩ := List.exists_mem_of_ne_nil _ hr
      have hup : ∀ i, i ∈ Region.ready .any init listed → i ∈ Region.ready .any (init.push o) (listed.push false) := by
        intro i hi
        obtain ⟨i1, i2, o', ho', he'⟩ := mem_ready.1 hi
        rw [mem_ready]
        refine ⟨by simp; omega, by rw [hlp _ _ (by omega)]; exact i2, o', by rw [hget i i1]; exact ho', ?_⟩
        intro e he hb
        have := hback i o' ho' e he hb
        rw [hlp _ _ (by omega)]; exact he' e he hb
      refine ⟨fun hh => (by have := hup x hx; rw [hh] at this; cases this), ?_⟩
      intro i hi
      obtain ⟨i1, i2, o', ho', he'⟩ := mem_ready.1 hi
      have hi' : i < init.size := by
        rcases Nat.lt_or_ge i init.size with hh | hh
        · exact hh
        · have : i = init.size := by simp at i1; omega
          subst this; exact absurd hi hnl
      rw [hget i hi'] at ho'
      rw [hlp _ _ (by omega)] at i2
      have hri : i ∈ Region.ready .any init listed := by
        rw [mem_ready]
        refine ⟨hi', i2, o', ho', ?_⟩
        intro e he hb
        have := hback i o' ho' e he hb
        have h2 := he' e he hb
        rwa [hlp _ _ (by omega)] at h2
      have hstep := h.2 i hri
      have hpush : (listed.push false).setIfInBounds i true = (listed.setIfInBounds i true).push false := by
        apply Array.ext_getElem?
        intro k
        rw [Array.getElem?_setIfInBounds, Array.getElem?_push, Array.getElem?_push, Array.getElem?_setIfInBounds]
        simp only [Array.size_push, Array.size_setIfInBounds]
        by_cases hk1 : i = k
        · subst hk1
          rw [if_pos rfl, if_pos (by omega), if_neg (by omega), if_pos rfl, if_pos (by omega)]
        · rw [if_neg hk1, if_neg hk1]
      have hcl2 : Closed init (fun k => (listed.setIfInBounds i true).getD k false) := by
        intro m om hom hs e he hb
        change (listed.setIfInBounds i true).getD m false = true at hs
        change (listed.setIfInBounds i true).getD e.on false = true
        rw [listed_set (by omega)] at hs ⊢
        split
        · rfl
        · rename_i hne
          split at hs
          · rename_i hm
            subst hm
            rw [ho'] at hom; cases hom
            have := he' e he hb
            have h3 := hback m o' ho' e he hb
            rwa [hlp _ _ (by omega)] at this
          · exact hcl m om hom hs e he hb
      have hyield : ∀ (tm : Array Value), Region.wanted o' (yielded (init.push o) tm) = Region.wanted o' (yielded init tm) := by
        intro tm
        unfold Region.wanted
        cases hgd : o'.guard with
        | none => rfl
        | some jb =>
          obtain ⟨j, b⟩ := jb
          have hj := hg i o' ho' j b hgd
          simp only [yielded, hget j hj]
      unfold wpOpIn at hstep ⊢
      rw [hget i hi', ho'] at *
      simp only at hstep ⊢
      rw [hyield]
      have hK : ∀ a1 w1, wpAnyIn F n P .any init Q' fuel (listed.setIfInBounds i true) a1 w1 → wpAnyIn F n P .any (init.push o) Q (fuel + 1) ((listed.push false).setIfInBounds i true) a1 w1 := by
        intro a1 w1 q1
        rw [hpush]
        exact ih _ a1 w1 (by simpa using hsz) hcl2 q1
      split
      · rename_i hw
        rw [if_pos hw] at hstep
        exact oper_wpIn_mono2 hQ hK hstep
      · rename_i hw
        rw [if_neg hw] at hstep
        exact ⟨hstep.1, hK _ _ hstep.2⟩

theorem evalDreg_any (hc : CalleeOk P dok call) {ops : Array Oper} {md : Bool} {dl : List DOp} (hl : lowerD P nt ops = some (md, dl)) {fr : Fr} {h : Hp} {fr' : Fr} {h' : Hp} (he : evalDreg call md dl fr h = some (fr', h'))
    {ρ : Ren} {w : World} {a : Act} (H : HRel ρ h w) (F : FrRel ρ nt fr a) {Q : Exit → Act → World → Prop}
    (hQ : ∀ ρ' w' a', HRel ρ' h' w' → FrRel ρ' nt fr' a' → Step ρ h w ρ' h' w' → a'.defers = a.defers → Q .normal a' w') : wpAnyIn (fen rd) 0 P .any ops Q ops.size (Array.replicate ops.size false) a w.drew := by
  unfold lowerD at hl
  split at hl
  case h_2 => cases hl
  rename_i sl hsl
  simp only at hl
  split at hl
  case isFalse => cases hl
  rename_i hchk
  simp only [Bool.and_eq_true] at hchk
  obtain ⟨hA, hT⟩ := hchk
  replace hl : chkL md sl (ancs ops.toList []) = true ∧ withRange md sl (ancs ops.toList []) 0 sl = dl := by
    split at hl
    · rename_i hL
      simp only [Option.some.injEq, Prod.mk.injEq] at hl
      obtain ⟨rfl, rfl⟩ := hl
      exact ⟨hL, rfl⟩
    · split at hl
      · rename_i hL
        simp only [Option.some.injEq, Prod.mk.injEq] at hl
        obtain ⟨rfl, rfl⟩ := hl
        exact ⟨hL, rfl⟩
      · cases hl
  obtain ⟨hL, hl⟩ := hl
  generalize hAA : ancs ops.toList [] = A at *
  obtain ⟨hslen, hsget⟩ := lowerOps_get hsl
  simp only [Array.length_toList] at hslen
  unfold evalDreg at he
  simp only at he
  split at he
  case h_2 => cases he
  rename_i frN hs rs hev
  split at he
  case isFalse => cases he
  rename_i hro
  split at he
  case h_2 => cases he
  rename_i hN hlast
  simp only [Option.some.injEq, Prod.mk.injEq] at he
  obtain ⟨rfl, rfl⟩ := he
  generalize hgs : cond md (guessD call (needsCall dl) dl h.next fr (hoist md dl (guess0 dl) h).2) (guess0 dl) = gs at *
  obtain ⟨p1, p2, p3, p4, p5⟩ := hoist_spec md dl gs h
  obtain ⟨_, _, vs, jn, tr, hjn⟩ := evalD_trace call md dl _ _ _ _ _ _ _ _ hev 0 rfl rfl hro
  obtain ⟨t1, t2, t3⟩ := DTrace.at call tr
  have hdlen : dl.length = ops.size := by rw [← hl, withRange_length, hslen]
  have hget : ∀ (i : Nat) (o : Oper), ops[i]? = some o → ∃ s, sl[i]? = some s ∧ lowerOper P nt ops o = some s ∧ dl[i]? = some { s with lo := loudsBefore md sl A i, hi := loudsNotBehind md sl A i } := by
    intro i o ho
    obtain ⟨s, hs1, hs2⟩ := hsget i o (by simpa using ho)
    refine ⟨s, hs1, hs2, ?_⟩
    rw [← hl, withRange_get, hs1]
    simp
  have hdst : (fun (k : Nat) => ((dl[k]?).bind (fun x : DOp => x.dst))) = (fun (k : Nat) => (ops[k]?).bind (fun x : Oper => x.dst)) := by
    funext k
    cases ho : ops[k]? with
    | none =>
      have hk : ops.size ≤ k := by
        rcases Nat.lt_or_ge k ops.size with hh | hh
        · rw [Array.getElem?_eq_getElem hh] at ho; cases ho
        · exact hh
      rw [List.getElem?_eq_none (by rw [hdlen]; exact hk)]; rfl
    | some o =>
      obtain ⟨s, _, hs2, hs3⟩ := hget k o ho
      rw [hs3]
      simp only [Option.bind_some]
      have := (lowerOper_spec hs2).1
      cases hod : o.dst with
      | none => rw [hod] at this; simp only [lowerDst, Option.some.injEq] at this; exact this.symm
      | some t =>
        rw [hod] at this
        simp only [lowerDst] at this
        split at this
        · simp only [Option.some.injEq] at this; exact this.symm
        · cases this
  -- which are loud, by the lowered list
  have hloudS : ∀ (k : Nat), (match sl[k]? with | some s => s.o.cls md == Cls.loud | none => false) = loudAt md dl k := by
    intro k
    unfold loudAt
    rw [← hl, withRange_get]
    cases sl[k]? <;> rfl
  rw [hdst] at t1 t3
  have D : DR P call nt ops dl A hs (fun i => (hoist md dl gs h).1.getD i (0, [])) (fun k => vs.getD k .undef) fr (loudAt md dl) md := by
    refine ⟨hdlen, ?_, hA, hT, ?_, ?_⟩
    · intro i o ho
      obtain ⟨s, hs1, hs2, hs3⟩ := hget i o ho
      refine ⟨_, hs3, hs2, ?_, ?_, ?_, ?_⟩
      · unfold loudAt; rw [hs3]
      · show loudsBefore md sl A i = _
        unfold loudsBefore cnt
        rw [hslen]
        refine congrArg List.length (congrArg (fun q => List.filter q (List.range ops.size)) (funext fun k => ?_))
        exact congrArg (fun b => b && isAnc A i k) (hloudS k)
      · show loudsNotBehind md sl A i = _
        unfold loudsNotBehind cnt
        rw [hslen]
        refine congrArg List.length (congrArg (fun q => List.filter q (List.range ops.size)) (funext fun k => ?_))
        exact congrArg (fun b => b && !isAnc A k i) (hloudS k)
      · have := t3 i _ hs3
        simpa using this
    · intro i k hik hk hi1 hk1
      simp only [← hloudS] at hi1 hk1
      split at hi1
      · rename_i a1 ha1
        split at hk1
        · rename_i b1 hb1
          exact chkL_spec hL hik ha1 hb1 (by simpa using hi1) (by simpa using hk1)
        · cases hk1
      · cases hi1
    · intro i k d e h1 h2 h3 h4 h5
      exact p5 i k d e h1 h2 h3 h4 h5
  have hnoneAbove : ∀ b, h.next ≤ b → ρ b = none := fun b hb => H.none_of_le hb
  -- the start
  have H0 : HRel ρ (hoist md dl gs h).2 w := ⟨fun b k l e1 e2 => H.blk b k l (by rw [← p3 b (H.dom b l e2).1]; exact e1) e2,
    fun b b' k k' l l' e1 e2 hk e3 e4 => H.one b b' k k' l l' (by rw [← p3 b (H.dom b l e3).1]; exact e1) (by rw [← p3 b' (H.dom b' l' e4).1]; exact e2) hk e3 e4,
    fun b l e1 => by have := H.dom b l e1; omega⟩
  have S0 : Step ρ h w ρ (hoist md dl gs h).2 w := ⟨Ren.le_refl _, fun b l e e' => (by rw [e] at e'; cases e'), p2, rfl, rfl, rfl, Nat.le_refl _, fun _ _ _ => rfl,
    fun r _ ⟨b, k, l, e1, e2, e3, e4⟩ => ⟨b, k, l, by rw [← p3 b (H.dom b l e3).1]; exact e1, e2, e3, e4⟩, fun b hb _ => p3 b hb, fun b k hb e1 _ => by rw [← p3 b hb]; exact e1⟩
  have I0 : DInv ops dl hs (fun i => (hoist md dl gs h).1.getD i (0, [])) (fun k => vs.getD k .undef) fr (loudAt md dl) md nt ρ h w a
      (Array.replicate ops.size false) a w.drew ρ (hoist md dl gs h).2 := by
    have hno : ∀ k, (Array.replicate ops.size false).getD k false = false := by
      intro k
      rw [Array.getD_eq_getD_getElem?, Array.getElem?_replicate]
      split <;> rfl
    refine ⟨by simp, ?_, ?_, H0.drew, F.1, ?_, ?_, ?_, S0.trans Step.drew, rfl⟩
    · intro i o _ hi; simp only [hno] at hi; cases hi
    · have : cnt (fun (k : Nat) => loudAt md dl k && (Array.replicate ops.size false).getD k false) ops.size = cnt (fun _ => false) ops.size := cnt_congr fun k _ => by rw [hno]; simp
      rw [this]
      have h00 : cnt (fun _ => false) ops.size = 0 := by simp [cnt]
      rw [h00]
      obtain ⟨⟨t, ht⟩, _, _⟩ := evalD_trace call md dl _ _ _ _ _ _ _ _ hev 0 rfl rfl hro
      rw [ht]; rfl
    · intro k t _ hk; rw [hno] at hk; cases hk
    · intro t x _ hx; exact F.2 t x hx
    · intro i d hd hdo _
      obtain ⟨q1, q2, q3⟩ := p4 i d hd hdo
      exact ⟨hnoneAbove _ q1, q3, q2, q1⟩
  refine dreg_any hc D ?_ ops.size _ _ _ ρ _ I0 (by
    have := cnt_le (p := fun k => !(Array.replicate ops.size false).getD k false) (q := fun _ => true) (n := ops.size) (fun _ _ _ => rfl)
    have h2 : cnt (fun _ => true) ops.size = ops.size := by
      unfold cnt; rw [List.filter_eq_self.2 (fun _ _ => rfl), List.length_range]
    omega)
  intro listed a' w' ρ' g I hall
  have hg : g = hN := by
    have h1 := I.hg
    have h2 : cnt (fun (k : Nat) => loudAt md dl k && listed.getD k false) ops.size = jn := by
      rw [t2, hdlen, Nat.zero_add]
      exact cnt_congr fun k hk => by rw [hall k hk]; simp
    rw [h2] at h1
    rw [List.getLast?_eq_getElem?, hjn] at hlast
    simp only [Nat.add_sub_cancel] at hlast
    rw [h1] at hlast
    cases hlast; rfl
  subst hg
  refine hQ ρ' w' a' I.H ⟨I.tn, ?_⟩ I.st I.df
  intro t x hx
  rw [t1, hdlen] at hx
  by_cases hw : ∃ k, k < ops.size ∧ (ops[k]?).bind (·.dst) = some t
  · obtain ⟨k, hk, hkd⟩ := hw
    have hone : ∀ m, m ≠ k → (ops[m]?).bind (·.dst) ≠ some t := by
      intro m hmk hmd
      have hm' : m < ops.size := by
        rcases Nat.lt_or_ge m ops.size with hh | hh
        · exact hh
        · rw [Array.getElem?_eq_none hh] at hmd; cases hmd
      obtain ⟨om, hom⟩ : ∃ om, ops[m]? = some om := ⟨ops[m]'hm', Array.getElem?_eq_getElem hm'⟩
      have := (chkT_spec hT hom hkd hmk).2
      rw [hom] at hmd
      exact this hmd
    rw [frAt_get_one hkd hk hone] at hx
    cases hx
    exact I.tl k t hk (hall k hk) hkd
  · have hno : ∀ k, k < ops.size → (ops[k]?).bind (·.dst) ≠ some t := fun k hk hkd => hw ⟨k, hk, hkd⟩
    rw [frAt_get_none hno] at hx
    exact I.tr t x (fun k hk _ => hno k hk) hx

theorem evalDreg_ok (hc : CalleeOk P dok call) (hm : P.follows .mixedOrders = true) {ops : Array Oper} {md : Bool} {dl : List DOp} (hl : lowerD P nt ops = some (md, dl)) {fr : Fr} {h : Hp} {fr' : Fr} {h' : Hp} (he : evalDreg call md dl fr h = some (fr', h'))
    {ρ : Ren} {w : World} {a : Act} (H : HRel ρ h w) (F : FrRel ρ nt fr a) {Q : Exit → Act → World → Prop}
    (hQ : ∀ ρ' w' a', HRel ρ' h' w' → FrRel ρ' nt fr' a' → Step ρ h w ρ' h' w' → a'.defers = a.defers → Q .normal a' w') {id : Nat} : (Code.region id ops true).wpIn (fen rd) 0 P Q a w := by
  refine wpIn_region_any hm ?_
  exact evalDreg_any hc hl he H F hQ

/-! ### The code -/
theorem evalS_no {n : Nat} {fr : Fr} {h : Hp} : evalS call n noS fr h = none := by
  simp [noS, evalS, evalOps, wantedA, evalOp, evalO]

def exitOf : X → Exit
  | .normal => .normal
  | .exit id => .exit id
  | .ret => .ret

/-! ### Marks: a loop over a function leaves one among the deferred calls -/
def Marks (pl : Bool) (w : World) (d : List Deferred) (w' : World) (d' : List Deferred) : Prop :=
  ∃ ms : List Nat, d' = ms.map (fun D => ({ target := .collected D, args := #[] } : Deferred)) ++ d ∧ (pl = true → ms = []) ∧ ms.Nodup ∧ ∀ D ∈ ms, w.heap.size ≤ D ∧ w'.heap[D]? = some (.deferred (some []))

theorem Marks.same {pl : Bool} {w w' : World} {d d' : List Deferred} (h : d' = d) : Marks pl w d w' d' := ⟨[], by simp [h], fun _ => rfl, by simp, by simp⟩
theorem Marks.mono {p q : Bool} {w w' : World} {d d' : List Deferred} (h : Marks p w d w' d') (hq : q = true → p = true) : Marks q w d w' d' :=
  let ⟨ms, h1, h2, h3⟩ := h
  ⟨ms, h1, fun e => h2 (hq e), h3⟩

theorem HRel.notOwned {ρ : Ren} {h : Hp} {w : World} (H : HRel ρ h w) {D : Nat} {x : Option (List Deferred)} (hD : w.heap[D]? = some (.deferred x)) {b : Nat} {k : Blk} {l : Loc} (e1 : h.get b = some k) (e2 : ρ b = some l) : l.row ≠ D := by
  rintro rfl
  obtain ⟨q1, q2, q3, q4⟩ := H.blk b k l e1 e2
  by_cases hh : k.kind.hid = true
  · cases hk : k.kind with
    | map c bs => obtain ⟨es, e, _⟩ := q2 c bs hk; rw [e] at hD; cases hD
    | iter m s sn la => obtain ⟨m', e, _⟩ := q3 m s sn la hk; rw [e] at hD; cases hD
    | loop r => obtain ⟨rec, nt, e, _⟩ := q4 r hk; rw [e] at hD; cases hD
    | own => rw [hk] at hh; cases hh
    | ro => rw [hk] at hh; cases hh
    | grown _ => rw [hk] at hh; cases hh
  · obtain ⟨c, e, z, e3, _⟩ := q1 hh; rw [e3] at hD; cases hD

theorem Step.keepX {ρ ρ' : Ren} {h h' : Hp} {w w' : World} (s : Step ρ h w ρ' h' w') (H : HRel ρ h w) {D : Nat} {x : Option (List Deferred)} (hD : w.heap[D]? = some (.deferred x)) : w'.heap[D]? = w.heap[D]? :=
  s.rows D (by
    rcases Nat.lt_or_ge D w.heap.size with hh | hh
    · exact hh
    · rw [Array.getElem?_eq_none hh] at hD; cases hD) (by
    rintro ⟨b, k, l, e1, _, e2, e3⟩
    exact H.notOwned hD e1 e2 e3)

theorem Marks.trans {p q : Bool} {ρ ρ1 ρ2 : Ren} {h h1 h2 : Hp} {w w1 w2 : World} {d d1 d2 : List Deferred} (a : Marks p w d w1 d1) (b : Marks q w1 d1 w2 d2) (s1 : Step ρ h w ρ1 h1 w1) (H1 : HRel ρ1 h1 w1) (s2 : Step ρ1 h1 w1 ρ2 h2 w2) :
    Marks (p && q) w d w2 d2 := by
  obtain ⟨ms, e1, e2, e3, e4⟩ := a
  obtain ⟨ns, f1, f2, f3, f4⟩ := b
  have hlt : ∀ D ∈ ms, D < w1.heap.size := fun D hD => by
    rcases Nat.lt_or_ge D w1.heap.size with hh | hh
    · exact hh
    · have := (e4 D hD).2; rw [Array.getElem?_eq_none hh] at this; cases this
  refine ⟨ns ++ ms, by rw [f1, e1]; simp, fun hh => ?_, ?_, ?_⟩
  · simp only [Bool.and_eq_true] at hh
    rw [e2 hh.1, f2 hh.2]; rfl
  · rw [List.nodup_append]
    refine ⟨f3, e3, ?_⟩
    intro x hx y hy e
    subst e
    have := hlt x hy
    have := (f4 x hx).1
    omega
  · intro D hD
    rcases List.mem_append.1 hD with hh | hh
    · exact ⟨Nat.le_trans s1.size (f4 D hh).1, (f4 D hh).2⟩
    · exact ⟨(e4 D hh).1, (s2.keepX H1 (e4 D hh).2).trans (e4 D hh).2⟩

theorem HRel.turnLoop {ρ : Ren} {h : Hp} {w : World} (H : HRel ρ h w) {b : Nat} {cs : List AV} {r : LoopRec} {l : Loc} (hk : h.get b = some ⟨cs, .loop r⟩) (hl : ρ b = some l) :
    ∃ rec : Loop, w.heap[l.row]? = some (.loop rec) ∧ rec.state = r.st ∧ rec.pending = r.pend.map jumpOf ∧ ∀ st pe,
      HRel ρ (h.put b ⟨[], .loop { r with st := st, pend := pe }⟩) (w.putObj l.row (.loop { rec with state := st, pending := pe.map jumpOf })) ∧
      Step ρ h w ρ (h.put b ⟨[], .loop { r with st := st, pend := pe }⟩) (w.putObj l.row (.loop { rec with state := st, pending := pe.map jumpOf })) := by
  obtain ⟨rec, nt, h1, h2, h3, h4, h5, h6, h7, h8⟩ := (H.blk b _ l hk hl).2.2.2 r rfl
  refine ⟨rec, h1, h2, h3, fun st pe => ?_⟩
  have hlt : l.row < w.heap.size := (H.dom b l hl).2
  refine H.setRow hk (by simp) hl (by simp) _ ?_
  refine ⟨fun hh => absurd rfl hh, fun _ _ hh => (by cases hh), fun _ _ _ _ hh => (by cases hh), fun r' hh => ?_⟩
  cases hh
  exact ⟨{ rec with state := st, pending := pe.map jumpOf }, nt, World.putObj_heap_same hlt, rfl, rfl, h4, h5, h6, h7, h8⟩

theorem evalS_ok (hc : CalleeOk P dok call) (hm : P.follows .mixedOrders = true) (hL : ∀ nt c s, Ctx.low nt c s ↔ lowerCode P nt c = some s) (n : Nat) : ∀ (c : Code) (s : S), lowerCode P nt c = some s → ∀ {fr : Fr} {h : Hp} {x : X} {fr' : Fr} {h' : Hp}, evalS call n s fr h = some (x, fr', h') →
    ∀ {rd : Option Nat}, (rd = none ∨ s.plain = true) → ∀ {ρ : Ren} {w : World} {a : Act}, HRel ρ h w → FrRel ρ nt fr a → ∀ {Q : Exit → Act → World → Prop}, (∀ ρ' w' a', HRel ρ' h' w' → FrRel ρ' nt fr' a' → Step ρ h w ρ' h' w' → Marks s.plain w a.defers w' a'.defers → Q (exitOf x) a' w') → c.wpIn (fen rd) 0 P Q a w
  | .skip, s, hl, fr, h, x, fr', h', he, rd, hp, ρ, w, a, H, F, Q, hQ => by
    simp only [lowerCode, Option.some.injEq] at hl; subst hl
    simp only [evalS, Option.some.injEq, Prod.mk.injEq] at he; obtain ⟨rfl, rfl, rfl⟩ := he
    exact wpIn_skip (hQ ρ w a H F (Step.refl _ _ _) (Marks.same rfl))
  | .label l, s, hl, fr, h, x, fr', h', he, rd, hp, ρ, w, a, H, F, Q, hQ => by
    simp only [lowerCode, Option.some.injEq] at hl; subst hl
    simp only [evalS, Option.some.injEq, Prod.mk.injEq] at he; obtain ⟨rfl, rfl, rfl⟩ := he
    exact wpIn_label (hQ ρ w a H F (Step.refl _ _ _) (Marks.same rfl))
  | .exit id, s, hl, fr, h, x, fr', h', he, rd, hp, ρ, w, a, H, F, Q, hQ => by
    simp only [lowerCode, Option.some.injEq] at hl; subst hl
    simp only [evalS, Option.some.injEq, Prod.mk.injEq] at he; obtain ⟨rfl, rfl, rfl⟩ := he
    exact wpIn_exit (hQ ρ w a H F (Step.refl _ _ _) (Marks.same rfl))
  | .ret, s, hl, fr, h, x, fr', h', he, rd, hp, ρ, w, a, H, F, Q, hQ => by
    simp only [lowerCode, Option.some.injEq] at hl; subst hl
    simp only [evalS, Option.some.injEq, Prod.mk.injEq] at he; obtain ⟨rfl, rfl, rfl⟩ := he
    exact wpIn_ret (hQ ρ w a H F (Step.refl _ _ _) (Marks.same rfl))
  | .seq c1 c2, s, hl, fr, h, x, fr', h', he, rd, hp, ρ, w, a, H, F, Q, hQ => by
    simp only [lowerCode] at hl
    split at hl
    case h_2 => cases hl
    rename_i s1 s2 e1 e2
    cases hl
    simp only [evalS] at he
    have hp1 : rd = none ∨ s1.plain = true := hp.imp id (fun q => by simp only [S.plain, Bool.and_eq_true] at q; exact q.1)
    have hp2 : rd = none ∨ s2.plain = true := hp.imp id (fun q => by simp only [S.plain, Bool.and_eq_true] at q; exact q.2)
    split at he
    · rename_i fr1 h1 he1
      refine wpIn_seq (evalS_ok hc hm hL n c1 s1 e1 he1 hp1 H F ?_)
      intro ρ1 w1 a1 H1 F1 st1 d1
      refine evalS_ok hc hm hL n c2 s2 e2 he hp2 H1 F1 ?_
      intro ρ2 w2 a2 H2 F2 st2 d2
      exact hQ ρ2 w2 a2 H2 F2 (st1.trans st2) ((d1.trans d2 st1 H1 st2).mono (by simp [S.plain]))
    · rename_i r hr
      refine wpIn_seq (evalS_ok hc hm hL n c1 s1 e1 he hp1 H F ?_)
      intro ρ1 w1 a1 H1 F1 st1 d1
      have := hQ ρ1 w1 a1 H1 F1 st1 (d1.mono (by simp only [S.plain, Bool.and_eq_true]; exact fun q => q.1))
      cases x with
      | normal => exact absurd he (hr fr' h')
      | exit id => exact this
      | ret => exact this
  | .cond z c1 c2, s, hl, fr, h, x, fr', h', he, rd, hp, ρ, w, a, H, F, Q, hQ => by
    simp only [lowerCode] at hl
    split at hl
    case h_2 => cases hl
    rename_i z' s1 s2 ez e1 e2
    cases hl
    simp only [evalS] at he
    have hp1 : rd = none ∨ s1.plain = true := hp.imp id (fun q => by simp only [S.plain, Bool.and_eq_true] at q; exact q.1)
    have hp2 : rd = none ∨ s2.plain = true := hp.imp id (fun q => by simp only [S.plain, Bool.and_eq_true] at q; exact q.2)
    split at he
    · rename_i hz
      have r := rel_boolv (F.env z _ _ ez hz)
      exact wpIn_cond_true r (evalS_ok hc hm hL n c1 s1 e1 he hp1 H F fun ρ' w' a' H' F' st m => hQ ρ' w' a' H' F' st (m.mono (by simp only [S.plain, Bool.and_eq_true]; exact fun q => q.1)))
    · rename_i hz
      have r := rel_boolv (F.env z _ _ ez hz)
      exact wpIn_cond_false r (evalS_ok hc hm hL n c2 s2 e2 he hp2 H F fun ρ' w' a' H' F' st m => hQ ρ' w' a' H' F' st (m.mono (by simp only [S.plain, Bool.and_eq_true]; exact fun q => q.2)))
    · cases he
  | .block id c1, s, hl, fr, h, x, fr', h', he, rd, hp, ρ, w, a, H, F, Q, hQ => by
    simp only [lowerCode, Option.map_eq_some_iff] at hl
    obtain ⟨s1, e1, rfl⟩ := hl
    simp only [evalS] at he
    have hp1 : rd = none ∨ s1.plain = true := hp
    split at he
    · rename_i i fr1 h1 he1
      split at he
      · rename_i hi
        subst hi
        simp only [Option.some.injEq, Prod.mk.injEq] at he; obtain ⟨rfl, rfl, rfl⟩ := he
        refine wpIn_block (evalS_ok hc hm hL n c1 s1 e1 he1 hp1 H F ?_)
        intro ρ1 w1 a1 H1 F1 st1 d1
        have := hQ ρ1 w1 a1 H1 F1 st1 d1
        simpa [Exit.inBlock, exitOf] using this
      · rename_i hi
        simp only [Option.some.injEq, Prod.mk.injEq] at he; obtain ⟨rfl, rfl, rfl⟩ := he
        refine wpIn_block (evalS_ok hc hm hL n c1 s1 e1 he1 hp1 H F ?_)
        intro ρ1 w1 a1 H1 F1 st1 d1
        have := hQ ρ1 w1 a1 H1 F1 st1 d1
        simpa [Exit.inBlock, exitOf, hi] using this
    · rename_i r hr
      refine wpIn_block (evalS_ok hc hm hL n c1 s1 e1 he hp1 H F ?_)
      intro ρ1 w1 a1 H1 F1 st1 d1
      have := hQ ρ1 w1 a1 H1 F1 st1 d1
      cases x with
      | normal => exact this
      | exit id' => exact absurd he (hr id' fr' h')
      | ret => exact this
  | .loop c1, s, hl, fr, h, x, fr', h', he, rd, hp, ρ, w, a, H, F, Q, hQ => by
    simp only [lowerCode, Option.map_eq_some_iff] at hl
    obtain ⟨s1, e1, rfl⟩ := hl
    simp only [evalS] at he
    have hp1 : rd = none ∨ s1.plain = true := hp
    have key : ∀ (m : Nat) {fr : Fr} {h : Hp}, iter (evalS call n s1) m fr h = some (x, fr', h') → ∀ {ρ : Ren} {w : World} {a : Act}, HRel ρ h w → FrRel ρ nt fr a →
        (∀ ρ' w' a', HRel ρ' h' w' → FrRel ρ' nt fr' a' → Step ρ h w ρ' h' w' → Marks s1.plain w a.defers w' a'.defers → Q (exitOf x) a' w') → Code.roundsIn (fen rd) 0 P c1 Q m a w := by
      intro m
      induction m with
      | zero => intro fr h he; simp [iter] at he
      | succ m ih =>
        intro fr h he ρ w a H F hQ
        simp only [iter] at he
        rw [roundsIn_succ]
        split at he
        · rename_i fr1 h1 he1
          refine evalS_ok hc hm hL n c1 s1 e1 he1 hp1 H F ?_
          intro ρ1 w1 a1 H1 F1 st1 d1
          refine ih he H1 F1 ?_
          intro ρ2 w2 a2 H2 F2 st2 d2
          exact hQ ρ2 w2 a2 H2 F2 (st1.trans st2) ((d1.trans d2 st1 H1 st2).mono (by simp))
        · rename_i r hr
          refine evalS_ok hc hm hL n c1 s1 e1 he hp1 H F ?_
          intro ρ1 w1 a1 H1 F1 st1 d1
          have := hQ ρ1 w1 a1 H1 F1 st1 d1
          cases x with
          | normal => exact absurd he (hr fr' h')
          | exit id => exact this
          | ret => exact this
    exact wpIn_loop_rounds n (key n he H F hQ)
  | .region id ops false, s, hl, fr, h, x, fr', h', he, rd, hp, ρ, w, a, H, F, Q, hQ => by
    simp only [lowerCode, Option.some.injEq] at hl
    split at hl
    case h_2 => subst hl; rw [evalS_no] at he; cases he
    rename_i sl e1
    subst hl
    simp only [evalS, Option.map_eq_some_iff, Prod.mk.injEq] at he
    obtain ⟨⟨fr1, h1⟩, he1, rfl, rfl, rfl⟩ := he
    exact wpIn_region_list (evalOps_ok hc ops.toList sl e1 he1 H F fun ρ' w' a' H' F' st d => hQ ρ' w' a' H' F' st (Marks.same d))
  | .region id ops true, s, hl, fr, h, x, fr', h', he, rd, hp, ρ, w, a, H, F, Q, hQ => by
    simp only [lowerCode, Option.some.injEq] at hl
    split at hl
    case h_2 => subst hl; rw [evalS_no] at he; cases he
    rename_i r e1
    obtain ⟨md, dl⟩ := r
    subst hl
    simp only [evalS, Option.map_eq_some_iff, Prod.mk.injEq] at he
    obtain ⟨⟨fr1, h1⟩, he1, rfl, rfl, rfl⟩ := he
    exact evalDreg_ok hc hm e1 he1 H F fun ρ' w' a' H' F' st d => hQ ρ' w' a' H' F' st (Marks.same d)
  | .scope _, s, hl, fr, h, x, fr', h', he, _, _, _, _, _, _, _, _, _ => by
    simp only [lowerCode, Option.some.injEq] at hl; subst hl
    rw [evalS_no] at he; cases he
  | .goto _, s, hl, fr, h, x, fr', h', he, _, _, _, _, _, _, _, _, _ => by
    simp only [lowerCode, Option.some.injEq] at hl; subst hl
    rw [evalS_no] at he; cases he
  | .rangeFunc g ps asg bod, s, hl, fr, h, x, fr', h', he, rd, hp, ρ, w, a, H, F, Q, hQ => by
    simp only [lowerCode] at hl
    split at hl
    case h_2 => cases hl; rw [evalS_no] at he; cases he
    rename_i g1 y z eg ey ez
    split at hl
    case isFalse => cases hl; rw [evalS_no] at he; cases he
    rename_i hpl
    obtain ⟨hpy, hpz, hps⟩ := hpl
    cases hl
    obtain rfl : rd = none := hp.resolve_right (by simp [S.plain])
    simp only [evalS] at he
    split at he
    case h_2 => cases he
    rename_i f first caps hg
    split at he
    case h_2 => cases he
    rename_i v0 h3 hcall
    obtain ⟨hent, hcal⟩ := hc (.it f) _ _ _ _ hcall
    have rf := F.env g _ _ eg hg
    cases hv : a.eval g <;> rw [hv] at rf <;> cases rf
    rename_i a' b' r1 r2
    obtain ⟨Hx, Sx⟩ := H.allocX (.deferred (some []))
    refine wpIn_rangeFunc ?_
    intro fn _
    rw [fen_round]
    obtain ⟨rec, hrec⟩ : ∃ rec : Loop, rec = { state := .ready, pending := none, fn, tmps := a.tmps, params := ps, assign := asg, body := bod, defers := w.heap.size } := ⟨_, rfl⟩
    have hLR : ∀ ρ' : Ren, ρ.le ρ' → BlkRel ρ' ((w.alloc (.deferred (some []))).alloc (.loop rec)) ⟨[], .loop ⟨fr, ps.toList, y, z, .ready, none⟩⟩ ⟨(w.alloc (.deferred (some []))).heap.size, 0, 0⟩ := by
      intro ρ' hle
      refine ⟨fun hh => absurd rfl hh, fun _ _ hh => (by cases hh), fun _ _ _ _ hh => (by cases hh), fun r hh => ?_⟩
      cases hh
      refine ⟨rec, nt, heap_alloc_new _ _, by rw [hrec], by rw [hrec]; rfl, by rw [hrec], fun t ht => by simpa using List.all_eq_true.1 hps t ht, by rw [hrec]; exact F.1, ?_, ?_, ?_, hpy, hpz⟩
      · intro t v e
        obtain ⟨u, hu, r⟩ := F.2 t v e
        exact ⟨u, by rw [hrec]; exact hu, Rel.mono hle r⟩
      · rw [hrec]; exact (hL _ _ _).2 ey
      · rw [hrec]; exact (hL _ _ _).2 ez
    obtain ⟨H1, S1⟩ := Hx.allocO ⟨[], .loop ⟨fr, ps.toList, y, z, .ready, none⟩⟩ (.loop rec) 0 hLR
    generalize hW1 : (w.alloc (.deferred (some []))).alloc (.loop rec) = W1 at *
    have hsz : (w.alloc (.deferred (some []))).heap.size = w.heap.size + 1 := World.size_alloc ..
    rw [hsz] at H1 S1
    have hD1 : W1.heap[w.heap.size]? = some (.deferred (some [])) := by
      rw [← hW1, heap_alloc_old _ _ _ (by rw [hsz]; omega)]
      exact heap_alloc_new w _
    have hadd : (ρ.add h.next ⟨w.heap.size + 1, 0, 0⟩) h.next = some ⟨w.heap.size + 1, 0, 0⟩ := Ren.add_same _ _ _
    have S01 := Sx.trans S1
    refine ⟨w.heap.size + 1, [{ target := .collected w.heap.size, args := #[] }], W1, { target := .fn (.func f) b', args := a' ++ #[.func (.yield (w.heap.size + 1)) #[] #[]] }, W1, f,
      a' ++ #[.func (.yield (w.heap.size + 1)) #[] #[]] ++ b', W1, ?_, ?_, fun f' _ => fen_fn none f', ?_, ?_, ?_⟩
    · rw [run_enterLoop_outer, ← hrec, hW1]
    · simp only [resolve, hv, Deferred.ofValue]
      simp [Act.eval]
    · simp only [invoke]
      exact hent _ _
    · rw [fen_depth]; intro hh; cases hh
    · refine callsIn_fen none _ ((hcal _ W1 _ H1 ?_).mono ?_)
      · simp only [Array.toList_append]
        exact RelL.append (RelL.append (RelL.mono S01.le r1) (.cons _ _ _ _ (.yield _ _ hadd) .nil)) (RelL.mono S01.le r2)
      · rintro e w3 ⟨v', ρ3, rfl, _, H3, S3⟩
        split at he
        case h_2 => cases he
        rename_i cs r hr
        have hl3 := S3.le _ _ hadd
        obtain ⟨rec3, hrow, hst, hpe, hturn⟩ := H3.turnLoop hr hl3
        have fin : ∀ (h4 : Hp) (pe : Option (Option Nat)), r.pend = pe → r.st ≠ .busy → h4 = h3.put h.next ⟨[], .loop { r with st := .exhausted }⟩ → 
            (∀ w4, (Instr.endLoop (w.heap.size + 1)).run P w3 = .ok (pe.map jumpOf) w4 → HRel ρ3 h4 w4 → FrRel ρ3 nt fr { a with defers := [{ target := .collected w.heap.size, args := #[] }] ++ a.defers } → Step ρ h w ρ3 h4 w4 →
              Marks false w a.defers w4 ([{ target := .collected w.heap.size, args := #[] }] ++ a.defers) → 
              (match pe.map jumpOf with
               | none => Q .normal { a with defers := [{ target := .collected w.heap.size, args := #[] }] ++ a.defers } w4
               | some c => c.wpIn (fen none) 0 P Q { a with defers := [{ target := .collected w.heap.size, args := #[] }] ++ a.defers } w4)) →
            rangePost (fen none) 0 P (w.heap.size + 1) Q { a with defers := [{ target := .collected w.heap.size, args := #[] }] ++ a.defers } (.returned v') w3 := by
          intro h4 pe hpe1 hbusy hh4 hk
          subst hpe1
          have hend := run_endLoop (P := P) hrow (by rw [hst]; exact hbusy)
          rw [hpe] at hend
          obtain ⟨H4, S4⟩ := hturn .exhausted r.pend
          have e4 : (⟨[], .loop { r with st := .exhausted, pend := r.pend }⟩ : Blk) = ⟨[], .loop { r with st := .exhausted }⟩ := rfl
          rw [e4, ← hh4] at H4 S4
          refine ⟨_, _, hend, hk _ hend H4 ⟨F.1, fun t v e => (F.mono (Ren.le_trans S01.le S3.le)).2 t v e⟩ (S01.trans (S3.trans S4)) ?_⟩
          refine ⟨[w.heap.size], rfl, by simp, by simp, ?_⟩
          intro D hD
          obtain rfl : D = w.heap.size := by simpa using hD
          refine ⟨Nat.le_refl _, ?_⟩
          exact (S4.keepX H3 ((S3.keepX H1 hD1).trans hD1)).trans ((S3.keepX H1 hD1).trans hD1)
        split at he
        · cases he
        · rename_i hpn hb
          simp only [Option.some.injEq, Prod.mk.injEq] at he; obtain ⟨rfl, rfl, rfl⟩ := he
          refine fin _ none hpn hb rfl ?_
          intro w4 _ H4 F4 S4 M4
          exact hQ ρ3 w4 _ H4 F4 S4 M4
        · rename_i hpn hb
          simp only [Option.some.injEq, Prod.mk.injEq] at he; obtain ⟨rfl, rfl, rfl⟩ := he
          refine fin _ (some none) hpn hb rfl ?_
          intro w4 _ H4 F4 S4 M4
          exact wpIn_ret (hQ ρ3 w4 _ H4 F4 S4 M4)
        · rename_i i hpn hb
          simp only [Option.some.injEq, Prod.mk.injEq] at he; obtain ⟨rfl, rfl, rfl⟩ := he
          refine fin _ (some (some i)) hpn hb rfl ?_
          intro w4 _ H4 F4 S4 M4
          exact wpIn_exit (hQ ρ3 w4 _ H4 F4 S4 M4)
  | .refuse _, s, hl, fr, h, x, fr', h', he, _, _, _, _, _, _, _, _, _ => by
    simp only [lowerCode, Option.some.injEq] at hl; subst hl
    rw [evalS_no] at he; cases he

end
end Go.Lite
