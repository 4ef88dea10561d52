/-
  LITE, part s: a function, whole. Own work of this session.
-/
import Derived.Test.YtchffjnmkpedkaaLr
set_option linter.unusedSectionVars false
set_option linter.unusedSimpArgs false
set_option linter.unusedVariables false
namespace Go.Lite
set_option linter.unusedSectionVars false
set_option linter.unusedSimpArgs false
set_option linter.unusedVariables false
open Go.RowKit
variable [Ctx]

section
variable {P : Program}

theorem frameOf_get : ∀ (l : List AV) (i t : Nat), (frameOf i l).get t = if i ≤ t then l[t - i]? else none
  | [], i, t => by simp [frameOf]
  | v :: l, i, t => by
    simp only [frameOf]
    rw [T.get_set, frameOf_get l (i + 1) t]
    by_cases h1 : t = i
    · subst h1; simp
    · rw [if_neg h1]
      by_cases h2 : i ≤ t
      · rw [if_pos (by omega), if_pos h2, show t - i = (t - (i + 1)) + 1 by omega]; simp
      · rw [if_neg (by omega), if_neg h2]

/-- What a contract of the evaluator's function is worth. -/
def DefOk (P : Program) (f : FuncId) : Def → Prop
  | .text s => Enters P f ∧ ∃ fn, P.funcs[f]? = some fn ∧ lowerFn P fn = some s
  | .textB s => Enters P f ∧ ∃ fn, P.funcs[f]? = some fn ∧ lowerFnB P fn = some s
  | .prim c => Enters P f ∧ ∀ args h v h', c args h = some (v, h') → ∀ ρ w (args' : Array Value), HRel ρ h w → RelL ρ args args'.toList → Calls P f args' w (Back ρ h w v h')
  | .ext c => ∀ args h v h', c args h = some (v, h') → ∀ ρ w (args' : Array Value), HRel ρ h w → RelL ρ args args'.toList → ∃ u w' ρ', (callFunc f args').run P w = .ok (.value u) w' ∧ Rel ρ' v u ∧ HRel ρ' h' w' ∧ Step ρ h w ρ' h' w'

/-- A result, as the model reads it. -/
def resOf (tmps : Array Value) : ResultVar → Sem Value
  | .tmp t => pure (tmps.getD t undef)
  | .cell x t => do loadVar t (← asAddr (tmps.getD x undef))

theorem results_eq (fn : Func) (tmps : Array Value) : results fn tmps = (do let vs ← fn.results.mapM (resOf tmps); pure (if h : vs.size = 1 then vs[0] else .tuple vs) : Sem Value) := by
  unfold results
  congr 1

theorem lowerRes_ok {ρ : Ren} {h : Hp} {w : World} (H : HRel ρ h w) {nt : Nat} {fr : Fr} {a : Act} (F : FrRel ρ nt fr a) : ∀ {l : List ResultVar} {r : List RV} {vs : List AV}, lowerRes P l = some r → resA fr h r = some vs →
    ∃ us : List Value, (l.mapM (resOf a.tmps)).run P w = .ok us w ∧ RelL ρ vs us
  | [], r, vs, h1, h2 => by
    simp only [lowerRes, Option.some.injEq] at h1; subst h1
    simp only [resA, Option.some.injEq] at h2; subst h2
    exact ⟨[], by simp, .nil⟩
  | .tmp t :: l, r, vs, h1, h2 => by
    simp only [lowerRes, Option.map_eq_some_iff] at h1
    obtain ⟨r', e1, rfl⟩ := h1
    simp only [resA] at h2
    split at h2
    case h_2 => cases h2
    rename_i v vs' e2 e3
    cases h2
    obtain ⟨us, q1, q2⟩ := lowerRes_ok H F e1 e3
    obtain ⟨u, hu, r⟩ := F.2 t v e2
    refine ⟨u :: us, ?_, .cons _ _ _ _ r q2⟩
    rw [List.mapM_cons]
    simp only [resOf, Sem.run_bind, Sem.run_pure, Result.andThen_ok, q1]
    rw [show a.tmps.getD t undef = u by simp [Array.getD_eq_getD_getElem?, hu]]
  | .cell x t :: l, r, vs, h1, h2 => by
    simp only [lowerRes] at h1
    split at h1
    case h_2 => cases h1
    rename_i g r' eg e1
    cases h1
    simp only [resA] at h2
    split at h2
    case h_2 => cases h2
    rename_i v vs' e2 e3
    cases h2
    split at e2
    case h_2 => cases e2
    rename_i p hp
    obtain ⟨us, q1, q2⟩ := lowerRes_ok H F e1 e3
    obtain ⟨u0, hu0, r0⟩ := F.2 x _ hp
    obtain ⟨lc, hlc, hu0'⟩ := rel_ptrv r0
    obtain ⟨u, hu, r⟩ := loadVar_ok (P := P) H eg hlc e2
    refine ⟨u :: us, ?_, .cons _ _ _ _ r q2⟩
    rw [List.mapM_cons]
    have hx : a.tmps.getD x undef = .pointer (some ⟨lc.row, lc.base + p.2, none⟩) := by simp [Array.getD_eq_getD_getElem?, hu0, hu0']
    simp only [resOf, hx, asAddr, Sem.run_bind, Sem.run_pure, Result.andThen_ok, hu, q1]

theorem results_ok {ρ : Ren} {h : Hp} {w : World} (H : HRel ρ h w) {nt : Nat} {fr : Fr} {a : Act} (F : FrRel ρ nt fr a) {fn : Func} {r : List RV} {vs : List AV} (h1 : lowerRes P fn.results.toList = some r) (h2 : resA fr h r = some vs) :
    ∃ u, (results fn a.tmps).run P w = .ok u w ∧ Rel ρ (oneOrTuple vs) u := by
  obtain ⟨us, q1, q2⟩ := lowerRes_ok (P := P) H F h1 h2
  have hm : (fn.results.mapM (resOf a.tmps)).run P w = .ok us.toArray w := by
    have : fn.results = fn.results.toList.toArray := by simp
    rw [this, List.mapM_toArray]
    simp only [Sem.run_map]
    rw [q1]; rfl
  match vs, us, q2 with
  | [], _, .nil => exact ⟨.tuple #[], by rw [results_eq]; simp only [Sem.run_bind, hm, Result.andThen_ok]; rfl, .tuple _ _ .nil⟩
  | [v], _, .cons _ u _ _ r .nil => exact ⟨u, by rw [results_eq]; simp only [Sem.run_bind, hm, Result.andThen_ok]; rfl, r⟩
  | v1 :: v2 :: vs, _, .cons _ u1 _ _ r1 (.cons _ u2 _ us r2 rs) =>
    refine ⟨.tuple (u1 :: u2 :: us).toArray, ?_, .tuple _ _ (by simpa using .cons _ _ _ _ r1 (.cons _ _ _ _ r2 rs))⟩
    rw [results_eq]
    simp only [Sem.run_bind, hm, Result.andThen_ok]
    simp

/-! ### Rounds -/
theorem setAll_ok {ρ : Ren} {nt : Nat} : ∀ (ps : List Nat) (args : List AV) (us : List Value), RelL ρ args us → args.length = ps.length → (∀ t ∈ ps, t < nt) → ∀ {fr : Fr} {tmps : Array Value}, nt ≤ tmps.size → (∀ t v, fr.get t = some v → ∃ u, tmps[t]? = some u ∧ Rel ρ v u) →
    nt ≤ ((ps.zip us).foldl (fun t (p : Nat × Value) => t.setIfInBounds p.1 p.2) tmps).size ∧
    ∀ t v, (setAll fr ps args).get t = some v → ∃ u, ((ps.zip us).foldl (fun t (p : Nat × Value) => t.setIfInBounds p.1 p.2) tmps)[t]? = some u ∧ Rel ρ v u
  | [], args, us, _, hl, _, fr, tmps, hn, hf => by
    cases args with
    | nil => exact ⟨by simpa using hn, by simpa [setAll] using hf⟩
    | cons a l => simp at hl
  | p :: ps, args, us, hr, hl, hp, fr, tmps, hn, hf => by
    cases hr with
    | nil => simp at hl
    | cons a u l m r1 r2 =>
      simp only [setAll, List.zip_cons_cons, List.foldl_cons]
      have hpn : p < nt := hp p (by simp)
      refine setAll_ok ps l m r2 (by simpa using hl) (fun t ht => hp t (by simp [ht])) (by simpa using hn) ?_
      intro t v e
      rw [T.get_set] at e
      by_cases ht : t = p
      · subst ht
        rw [if_pos rfl] at e; cases e
        exact ⟨u, by simp [Nat.lt_of_lt_of_le hpn hn], r1⟩
      · rw [if_neg ht] at e
        obtain ⟨u', hu', r'⟩ := hf t v e
        exact ⟨u', by rw [Array.getElem?_setIfInBounds, if_neg (Ne.symm ht)]; exact hu', r'⟩

variable {dok : FuncId → Bool} {call : Callee}

theorem round_ok (hc : CalleeOk P dok call) (hm : P.follows .mixedOrders = true) (hL : ∀ nt c s, Ctx.low nt c s ↔ lowerCode P nt c = some s) (n b : Nat) {args : List AV} {h h' : Hp} {v : AV} (he : roundA call n b args h = some (v, h')) :
    TgtOk P dok args h v h' (.yld b) := by
  intro ρ w args' l H hr hl
  unfold roundA at he
  split at he
  case h_2 => cases he
  rename_i cs r hb
  split at he
  case isFalse => cases he
  rename_i hlen
  split at he
  case h_2 => cases he
  rename_i fr1 h1 hasg
  split at he
  case h_2 => cases he
  rename_i cs1 r1 hb1
  split at he
  case h_2 => cases he
  rename_i hst1
  split at he
  case h_2 => cases he
  rename_i x frx h2 hbody
  split at he
  case h_2 => cases he
  rename_i cs2 r2 hb2
  obtain ⟨rec, nt, k1, k2, k3, k4, k5, k6, k7, k8, k9, k10, k11⟩ := (H.blk b _ l hb hl).2.2.2 r rfl
  have hsz : args'.size = rec.params.size := by
    have := RelL.length hr
    rw [← Array.length_toList, ← Array.length_toList, k4, ← hlen, ← this]
  have hzip : (rec.params.zip args').foldl (fun tmps (t, a) => tmps.setIfInBounds t a) rec.tmps = (r.ps.zip args'.toList).foldl (fun t (p : Nat × Value) => t.setIfInBounds p.1 p.2) rec.tmps := by
    rw [← Array.foldl_toList, Array.toList_zip, k4]
  refine ⟨rec.fn, _, rec.assign, rec.body, run_yield k1 hsz, ?_⟩
  rw [hzip]
  obtain ⟨s1, s2⟩ := setAll_ok r.ps args args'.toList hr hlen k5 k6 k7
  refine roundIn_of_wpIn (F := Fence.wide) trivial ?_
  have F0 : FrRel ρ nt (setAll r.fr r.ps args) { tmps := (r.ps.zip args'.toList).foldl (fun t (p : Nat × Value) => t.setIfInBounds p.1 p.2) rec.tmps, defers := [] } := ⟨s1, s2⟩
  refine evalS_ok hc hm hL n rec.assign r.assign ((hL _ _ _).1 k8) hasg (rd := some l.row) (.inr k10) H F0 ?_
  intro ρ1 w1 a1 H1 F1 S1 _
  have hl1 := S1.le _ _ hl
  obtain ⟨rec1, j1, j2, j3, turn1⟩ := H1.turnLoop hb1 hl1
  refine ⟨_, run_beginRound j1 (by rw [j2, hst1]), ?_⟩

  obtain ⟨H1b, S1b⟩ := turn1 .busy r1.pend
  have er : ({ rec1 with state := .busy, pending := r1.pend.map jumpOf } : Loop) = { rec1 with state := .busy } := by rw [← j3]
  rw [er] at H1b S1b
  refine evalS_ok hc hm hL n rec.body r.body ((hL _ _ _).1 k9) hbody (rd := some l.row) (.inr k11) H1b (F1.mono S1b.le) ?_
  intro ρ2 w2 a2 H2 F2 S2 _
  have hl2 := S2.le _ _ (S1b.le _ _ hl1)
  obtain ⟨rec2, p1, p2, p3, turn2⟩ := H2.turnLoop hb2 hl2
  have S02 := S1.trans (S1b.trans S2)
  cases x with
  | normal =>
    simp only [Option.some.injEq, Prod.mk.injEq] at he; obtain ⟨rfl, rfl⟩ := he
    obtain ⟨H3, S3⟩ := turn2 .ready none
    exact ⟨_, _, run_endRound none p1, _, ρ2, rfl, .bool _, H3, S02.trans S3⟩
  | ret =>
    simp only [Option.some.injEq, Prod.mk.injEq] at he; obtain ⟨rfl, rfl⟩ := he
    obtain ⟨H3, S3⟩ := turn2 .done (some none)
    exact ⟨_, _, run_endRound (some .ret) p1, _, ρ2, rfl, .bool _, H3, S02.trans S3⟩
  | exit i =>
    simp only [Option.some.injEq, Prod.mk.injEq] at he; obtain ⟨rfl, rfl⟩ := he
    obtain ⟨H3, S3⟩ := turn2 .done (some (some i))
    exact ⟨_, _, run_endRound (some (.exit i)) p1, _, ρ2, rfl, .bool _, H3, S02.trans S3⟩

/-! ### How a function leaves -/
theorem leaves_marks {fn : Func} {tmps : Array Value} {R : Ending → World → Prop} {ρ ρ' : Ren} {h h' : Hp} {w : World} (hres : ∀ w2, HRel ρ' h' w2 → Step ρ h w ρ' h' w2 → ∃ u, (results fn tmps).run P w2 = .ok u w2 ∧ R (.returned u) w2) :
    ∀ (ms : List Nat), ms.Nodup → ∀ {w1 : World}, (∀ D ∈ ms, w.heap.size ≤ D ∧ w1.heap[D]? = some (.deferred (some []))) → HRel ρ' h' w1 → Step ρ h w ρ' h' w1 →
      LeavesInM Fence.wide 0 P fn tmps R (ms.map fun D => ({ target := .collected D, args := #[] } : Deferred)) .returning w1
  | [], _, w1, _, H1, S1 => hres w1 H1 S1
  | D :: ms, hn, w1, hD, H1, S1 => by
    obtain ⟨hd1, hd2⟩ := hD D (by simp)
    rw [List.nodup_cons] at hn
    have hro : ∀ r, r ≠ D → (w1.putObj D (.deferred none)).heap[r]? = w1.heap[r]? := fun r hr => World.putObj_heap_other hr
    refine ⟨by simp, .inl ⟨D, w1.putObj D (.deferred none), rfl, run_takeDeferred hd2, ?_⟩⟩
    refine leaves_marks hres ms hn.2 ?_ ?_ ?_
    · intro D' hD'
      obtain ⟨q1, q2⟩ := hD D' (by simp [hD'])
      exact ⟨q1, (hro D' (fun e => hn.1 (e ▸ hD'))).trans q2⟩
    · exact H1.aside (by simp) rfl rfl rfl fun b k l e1 e2 => hro _ (H1.notOwned hd2 e1 e2)
    · exact ⟨S1.le, S1.new, S1.next, S1.os, S1.tape, S1.output, by rw [World.putObj_size]; exact S1.size, fun r hr ho => (hro r (by omega)).trans (S1.rows r hr ho), S1.own, S1.rest, S1.ro⟩

/-- What is deferred. -/
inductive DRel (ρ : Ren) : List (FuncId × List AV) → List Deferred → Prop
  | nil : DRel ρ [] []
  | cons (g : FuncId) (args : List AV) (cap as : Array Value) (l : List (FuncId × List AV)) (ds : List Deferred) : RelL ρ args (as ++ cap).toList → DRel ρ l ds → DRel ρ ((g, args) :: l) ({ target := .fn (.func g) cap, args := as } :: ds)

theorem DRel.mono {ρ ρ' : Ren} (hle : ρ.le ρ') {l : List (FuncId × List AV)} {ds : List Deferred} (h : DRel ρ l ds) : DRel ρ' l ds := by
  induction h with
  | nil => exact .nil
  | cons g args cap as l ds r _ ih => exact .cons g args cap as l ds (RelL.mono hle r) ih

theorem callsDIn_mono' {F : Fence} {n : Nat} {f : FuncId} {args : Array Value} {u : FrameMode} {w : World} {R R' : Ending → FrameMode → World → Prop} (h : CallsDIn F n P f args u w R) (hr : ∀ e u' w', R e u' w' → R' e u' w') : CallsDIn F n P f args u w R' :=
  ⟨h.1, fun c cs hc hroom => let ⟨e, u', w', fr, r, rest⟩ := h.2 c cs hc hroom; ⟨e, u', w', fr, hr _ _ _ r, rest⟩⟩

theorem leaves_ds (hc : CalleeOk P dok call) {fn : Func} {tmps : Array Value} {R : Ending → World → Prop} {ρ0 : Ren} {h0 h2 : Hp} {w0 : World} :
    ∀ (l : List (FuncId × List AV)) (ds : List Deferred) {ρ : Ren} {h : Hp} {w : World}, DRel ρ l ds → runDs dok call l h = some h2 → HRel ρ h w → Step ρ0 h0 w0 ρ h w →
      (∀ ρ2 w2, HRel ρ2 h2 w2 → Step ρ0 h0 w0 ρ2 h2 w2 → ρ.le ρ2 → ∃ u, (results fn tmps).run P w2 = .ok u w2 ∧ R (.returned u) w2) →
      LeavesInM Fence.wide 0 P fn tmps R ds .returning w
  | [], ds, ρ, h, w, hd, he, H, S, hres => by
    cases hd
    simp only [runDs, Option.some.injEq] at he; subst he
    exact hres ρ w H S (Ren.le_refl _)
  | (g, args) :: l, ds, ρ, h, w, hd, he, H, S, hres => by
    cases hd with
    | cons _ _ cap as _ ds' r hd' =>
      simp only [runDs] at he
      split at he
      case isFalse => cases he
      rename_i hk
      split at he
      case h_2 => cases he
      rename_i v h1 he1
      obtain ⟨c1, c2⟩ := (hc (.fn g) args h v h1 he1).2 hk
      refine ⟨by simp, .inr ⟨fun hh => (by cases hh), .func g, cap, g, as ++ cap, rfl, ?_, fun _ _ => trivial, ?_⟩⟩
      · simp only [invoke]; exact c1 _ _
      · refine callsDIn_mono' (c2 ρ w (as ++ cap) H r .returning) ?_
        rintro e u' w' ⟨rfl, v', ρ', rfl, _, H', S'⟩
        exact leaves_ds hc l ds' (hd'.mono S'.le) he H' (S.trans S') fun ρ2 w2 H2 S2 hle => hres ρ2 w2 H2 S2 (Ren.le_trans S'.le hle)

/-- A body that defers calls. -/
theorem evalB_ok (hc : CalleeOk P dok call) (hm : P.follows .mixedOrders = true) (hL : ∀ nt c s, Ctx.low nt c s ↔ lowerCode P nt c = some s) (n : Nat) {nt : Nat} : ∀ (c : Code) (s : SB), lowerB P nt c = some s → ∀ {fr : Fr} {h : Hp} {ds : List (FuncId × List AV)} {x : X} {fr' : Fr} {h' : Hp} {ds' : List (FuncId × List AV)}, evalB call n s fr h ds = some (x, fr', h', ds') →
    ∀ {ρ : Ren} {w : World} {a : Act}, HRel ρ h w → FrRel ρ nt fr a → DRel ρ ds a.defers → ∀ {Q : Exit → Act → World → Prop}, (∀ ρ' w' a', HRel ρ' h' w' → FrRel ρ' nt fr' a' → Step ρ h w ρ' h' w' → DRel ρ' ds' a'.defers → Q (exitOf x) a' w') → c.wpIn (fen none) 0 P Q a w := by
  intro c
  have leaf : ∀ (c : Code) (s : SB), plainS (lowerCode P nt c) = some s → ∀ {fr : Fr} {h : Hp} {ds : List (FuncId × List AV)} {x : X} {fr' : Fr} {h' : Hp} {ds' : List (FuncId × List AV)}, evalB call n s fr h ds = some (x, fr', h', ds') →
      ∀ {ρ : Ren} {w : World} {a : Act}, HRel ρ h w → FrRel ρ nt fr a → DRel ρ ds a.defers → ∀ {Q : Exit → Act → World → Prop}, (∀ ρ' w' a', HRel ρ' h' w' → FrRel ρ' nt fr' a' → Step ρ h w ρ' h' w' → DRel ρ' ds' a'.defers → Q (exitOf x) a' w') → c.wpIn (fen none) 0 P Q a w := by
    intro c s hl fr h ds x fr' h' ds' he ρ w a H F D Q hQ
    unfold plainS at hl
    split at hl
    case h_2 => cases hl
    rename_i s1 e1
    split at hl
    case isFalse => cases hl
    rename_i hp
    cases hl
    simp only [evalB, Option.map_eq_some_iff, Prod.mk.injEq] at he
    obtain ⟨⟨x1, f1, g1⟩, he1, rfl, rfl, rfl, rfl⟩ := he
    refine evalS_ok hc hm hL n c s1 e1 he1 (rd := none) (.inl rfl) H F ?_
    intro ρ' w' a' H' F' S' M
    obtain ⟨ms, m1, m2, _⟩ := M
    rw [m2 hp] at m1
    exact hQ ρ' w' a' H' F' S' (by rw [m1]; exact D.mono S'.le)
  induction c with
  | seq c1 c2 ih1 ih2 =>
    intro s hl fr h ds x fr' h' ds' he ρ w a H F D Q hQ
    simp only [lowerB] at hl
    split at hl
    case isFalse => exact leaf _ s hl he H F D hQ
    split at hl
    case h_2 => cases hl
    rename_i s1 s2 e1 e2
    cases hl
    simp only [evalB] at he
    split at he
    · rename_i fr1 h1 ds1 he1
      refine wpIn_seq (ih1 s1 e1 he1 H F D ?_)
      intro ρ1 w1 a1 H1 F1 S1 D1
      exact ih2 s2 e2 he H1 F1 D1 fun ρ2 w2 a2 H2 F2 S2 D2 => hQ ρ2 w2 a2 H2 F2 (S1.trans S2) D2
    · rename_i r hr
      refine wpIn_seq (ih1 s1 e1 he H F D ?_)
      intro ρ1 w1 a1 H1 F1 S1 D1
      have := hQ ρ1 w1 a1 H1 F1 S1 D1
      cases x with
      | normal => exact absurd he (hr fr' h' ds')
      | exit id => exact this
      | ret => exact this
  | region id ops draw =>
    intro s hl fr h ds x fr' h' ds' he ρ w a H F D Q hQ
    cases draw with
    | true =>
      simp only [lowerB] at hl
      split at hl
      case isFalse => exact leaf _ s hl he H F D hQ
      unfold lowerDfrD at hl
      split at hl
      case h_2 => cases hl
      rename_i c type pos after hlast
      split at hl
      case isFalse => cases hl
      rename_i hchk
      simp only [Bool.and_eq_true] at hchk
      obtain ⟨⟨hA, hall⟩, hgd⟩ := hchk
      split at hl
      case h_2 => cases hl
      rename_i f hf
      split at hl
      case h_2 => cases hl
      rename_i r g as e1 e2 e3
      obtain ⟨md, dl⟩ := r
      cases hl
      simp only [evalB] at he
      cases hreg : evalS call n (.dreg md dl) fr h with
      | none => rw [hreg] at he; simp at he
      | some q =>
        obtain ⟨x1, fr1, h1⟩ := q
        rw [hreg] at he
        simp only [evalS, Option.map_eq_some_iff, Prod.mk.injEq] at hreg
        obtain ⟨⟨f2, h2⟩, hops, rfl, rfl, rfl⟩ := hreg
        simp only [Option.map_some] at he
        split at he
        case h_2 => cases he
        rename_i g1 first caps l1 e4 e5
        simp only [Option.some.injEq, Prod.mk.injEq] at he
        obtain ⟨rfl, rfl, rfl, rfl⟩ := he
        obtain ⟨o, ho⟩ : ∃ o : Oper, o = ⟨none, .defer c, type, pos, after, none⟩ := ⟨_, rfl⟩
        have hsplit : ops = ops.pop.push o := by
          obtain ⟨ys, hys⟩ := List.getLast?_eq_some_iff.1 hlast
          apply Array.toList_inj.1
          rw [Array.toList_push, Array.toList_pop, hys, List.dropLast_concat, ho]
        have hsz : ops.size = ops.pop.size + 1 := by
          rw [hsplit]; simp
        rw [hsplit] at hA hall
        simp only [Array.pop_push] at hA hall
        refine wpIn_region_any hm ?_
        rw [hsplit, Array.size_push]
        rw [show Array.replicate (ops.pop.size + 1) false = (Array.replicate ops.pop.size false).push false from by rw [Array.replicate_succ]]
        refine wpAnyIn_snoc hA (fun k hk => List.all_eq_true.1 hall k (List.mem_range.2 hk)) ?_ (Q' := fun e a w => match e with | .normal => wpOpIn (fen none) 0 P (ops.pop.push o) Q ops.pop.size (Q .normal) a w | e => Q e a w) ?_ (fun a w q => q) _ _ _ _ (by simp) ?_ ?_
        · intro i o' ho' j b hgj
          have := List.all_eq_true.1 hgd o' (Array.mem_toList_iff.2 (Array.mem_of_getElem? ho'))
          rw [hgj] at this
          simpa using this
        · intro e a w hne q
          cases e <;> first | exact q | exact absurd rfl hne
        · intro i o' _ hs
          exfalso
          change (Array.replicate ops.pop.size false).getD i false = true at hs
          rw [Array.getD_eq_getD_getElem?, Array.getElem?_replicate] at hs
          split at hs <;> cases hs
        · refine evalDreg_any hc e1 hops H F ?_
          intro ρ1 w1 a1 H1 F1 S1 d1
          show wpOpIn (fen none) 0 P (ops.pop.push o) Q ops.pop.size (Q .normal) a1 w1
          unfold wpOpIn
          rw [Array.getElem?_push_size]
          simp only
          rw [if_pos (by rw [ho]; simp [Region.wanted])]
          have rf := F1.env f _ _ e2 e4
          have rl := envOk_list (ρ := ρ1) (fun X _ => F1.env X) e3 e5
          cases hv : a1.eval f <;> rw [hv] at rf <;> cases rf
          rename_i a' b' r1 r2
          refine ⟨fun f _ => fen_fn none f, ?_⟩
          rw [show (fen none).round = none from rfl, Oper.semAt_none]
          have : (execOp a1.eval o).run P w1 = .ok (.defer { target := .fn (.func g1) b', args := a' ++ c.args.map a1.eval }) w1 := by
            rw [ho]
            simp only [execOp, resolve, hf, hv, Sem.run_bind, Deferred.ofValue, Sem.run_pure, Result.andThen_ok]
          rw [this]
          have hput : o.dst = none := by rw [ho]
          refine (show Q .normal ((({ a1 with defers := { target := .fn (.func g1) b', args := a' ++ c.args.map a1.eval } :: a1.defers } : Act)).put o.dst undef) w1 from ?_)
          rw [hput]
          refine hQ ρ1 w1 _ H1 ⟨F1.1, F1.2⟩ S1 ?_
          show DRel ρ1 _ ({ target := .fn (.func g1) b', args := a' ++ c.args.map a1.eval } :: a1.defers)
          refine .cons _ _ _ _ _ _ ?_ (by rw [d1]; exact D.mono S1.le)
          simp only [Array.toList_append, Array.toList_map]
          exact RelL.append (RelL.append r1 rl) r2
    | false =>
      simp only [lowerB] at hl
      split at hl
      case isFalse => exact leaf _ s hl he H F D hQ
      unfold lowerDfr at hl
      split at hl
      case h_2 => cases hl
      rename_i c type pos after hlast
      split at hl
      case h_2 => cases hl
      rename_i f hf
      split at hl
      case h_2 => cases hl
      rename_i l g as e1 e2 e3
      cases hl
      simp only [evalB] at he
      cases hreg : evalS call n (.reg l) fr h with
      | none => rw [hreg] at he; simp at he
      | some q =>
        obtain ⟨x1, fr1, h1⟩ := q
        rw [hreg] at he
        simp only [evalS, Option.map_eq_some_iff, Prod.mk.injEq] at hreg
        obtain ⟨⟨f2, h2⟩, hops, rfl, rfl, rfl⟩ := hreg
        simp only [Option.map_some] at he
        split at he
        case h_2 => cases he
        rename_i g1 first caps l1 e4 e5
        simp only [Option.some.injEq, Prod.mk.injEq] at he
        obtain ⟨rfl, rfl, rfl, rfl⟩ := he
        have hsplit : ops.toList = ops.toList.dropLast ++ [(⟨none, .defer c, type, pos, after, none⟩ : Oper)] := by
          obtain ⟨ys, hys⟩ := List.getLast?_eq_some_iff.1 hlast
          rw [hys, List.dropLast_concat]
        refine wpIn_region_list ?_
        rw [hsplit]
        refine evalOps_ok' hc ops.toList.dropLast l e1 hops H F ?_
        intro ρ1 w1 a1 H1 F1 S1 d1
        unfold wpListIn
        rw [if_pos (by simp [Region.wanted])]
        have rf := F1.env f _ _ e2 e4
        have rl := envOk_list (ρ := ρ1) (fun X _ => F1.env X) e3 e5
        cases hv : a1.eval f <;> rw [hv] at rf <;> cases rf
        rename_i a' b' r1 r2
        refine ⟨fun f _ => fen_fn none f, ?_⟩
        rw [show (fen none).round = none from rfl, Oper.semAt_none]
        have : (execOp a1.eval (⟨none, .defer c, type, pos, after, none⟩ : Oper)).run P w1 = .ok (.defer { target := .fn (.func g1) b', args := a' ++ c.args.map a1.eval }) w1 := by
          simp only [execOp, resolve, hf, hv, Sem.run_bind, Deferred.ofValue, Sem.run_pure, Result.andThen_ok]
        rw [this]
        refine hQ ρ1 w1 _ H1 ⟨F1.1, F1.2⟩ S1 ?_
        show DRel ρ1 _ ({ target := .fn (.func g1) b', args := a' ++ c.args.map a1.eval } :: a1.defers)
        refine .cons _ _ _ _ _ _ ?_ (by rw [d1]; exact D.mono S1.le)
        simp only [Array.toList_append, Array.toList_map]
        exact RelL.append (RelL.append r1 rl) r2
  | _ =>
    intro s hl fr h ds x fr' h' ds' he ρ w a H F D Q hQ
    simp only [lowerB] at hl
    split at hl
    · cases hl
    · exact leaf _ s hl he H F D hQ

/-- A function of which so much is told. -/
theorem runDef_ok (hc : CalleeOk P dok call) (hm : P.follows .mixedOrders = true) (hL : ∀ nt c s, Ctx.low nt c s ↔ lowerCode P nt c = some s) (n : Nat) {f : FuncId} {d : Def} (hd : DefOk P f d) {args : List AV} {h h' : Hp} {v : AV} (he : runDef dok call n args h d = some (v, h')) :
    ((Enters P f ∧ ∀ ρ w (args' : Array Value), HRel ρ h w → RelL ρ args args'.toList → Calls P f args' w (Back ρ h w v h')) ∨
      ((∃ c, d = .ext c) ∧ ∀ ρ w (args' : Array Value), HRel ρ h w → RelL ρ args args'.toList → ∃ u w' ρ', (callFunc f args').run P w = .ok (.value u) w' ∧ Rel ρ' v u ∧ HRel ρ' h' w' ∧ Step ρ h w ρ' h' w')) ∧
    ((∃ s, d = .text s ∧ s.body.plain = true) → Enters P f ∧ ∀ ρ w (args' : Array Value), HRel ρ h w → RelL ρ args args'.toList → ∀ (u : FrameMode), CallsDIn Fence.wide 0 P f args' u w fun e u' w' => u' = u ∧ Back ρ h w v h' e w') := by
  have hF0 : ∀ {ρ : Ren} {args' : Array Value} (fn : Func), RelL ρ args args'.toList → FrRel ρ fn.ntmps (frameOf 0 args) { tmps := args' ++ Array.replicate (fn.ntmps - args'.size) undef, defers := [] } := by
    intro ρ args' fn r
    refine ⟨by simp; omega, ?_⟩
    intro t x hx
    rw [frameOf_get, if_pos (Nat.zero_le _)] at hx
    obtain ⟨u, hu, r'⟩ := RelL.get r hx
    refine ⟨u, ?_, r'⟩
    have hlt : t < args'.size := by
      rcases Nat.lt_or_ge t args'.size with hh | hh
      · exact hh
      · rw [List.getElem?_eq_none (by simpa using hh)] at hu; cases hu
    rw [Array.getElem?_append_left hlt]
    simpa using hu
  cases d with
  | prim c => exact ⟨.inl ⟨hd.1, fun ρ w args' H r => hd.2 args h v h' he ρ w args' H r⟩, by rintro ⟨s, e, _⟩; cases e⟩
  | ext c => exact ⟨.inr ⟨⟨c, rfl⟩, fun ρ w args' H r => hd args h v h' he ρ w args' H r⟩, by rintro ⟨s, e, _⟩; cases e⟩
  | text s =>
    obtain ⟨hent, fn, hfn, hlow⟩ := hd
    unfold lowerFn at hlow
    split at hlow
    case h_2 => cases hlow
    rename_i c hbody
    split at hlow
    case h_2 => cases hlow
    rename_i rv sb e1 e2
    cases hlow
    simp only [runDef] at he
    obtain ⟨x, fr', h1, l, hev, hx, hl, rfl, rfl⟩ : ∃ x fr' h1 l, evalS call n sb (frameOf 0 args) h = some (x, fr', h1) ∧ (x = .normal ∨ x = .ret) ∧ resA fr' h1 rv = some l ∧ v = oneOrTuple l ∧ h' = h1 := by
      split at he
      · rename_i fr' h1 hev
        rw [Option.map_eq_some_iff] at he
        obtain ⟨l, hl, he⟩ := he
        cases he
        exact ⟨_, fr', _, l, hev, .inl rfl, hl, rfl, rfl⟩
      · rename_i fr' h1 hev
        rw [Option.map_eq_some_iff] at he
        obtain ⟨l, hl, he⟩ := he
        cases he
        exact ⟨_, fr', _, l, hev, .inr rfl, hl, rfl, rfl⟩
      · cases he
    refine ⟨.inl ⟨hent, fun ρ w args' H r => ?_⟩, ?_⟩
    · refine callsIn_wide.1 (callsIn_of_wp_marks (F := Fence.wide) (n := 0) hfn hbody trivial ?_)
      refine evalS_ok hc hm hL n c sb e2 hev (rd := none) (.inl rfl) H (hF0 fn r) ?_
      rintro ρ' w' a' H' F' st ⟨ms, m1, _, m3, m4⟩
      have hout : LeavesInM Fence.wide 0 P fn a'.tmps (Back ρ h w (oneOrTuple l) h') a'.defers .returning w' := by
        rw [m1, List.append_nil]
        refine leaves_marks (ρ := ρ) (ρ' := ρ') (h := h) (h' := h') (w := w) ?_ ms m3 m4 H' st
        intro w2 H2 S2
        obtain ⟨u, hu, ru⟩ := results_ok (P := P) H2 F' e1 hl
        exact ⟨u, hu, u, ρ', rfl, ru, H2, S2⟩
      rcases hx with rfl | rfl
      · exact hout
      · exact hout
    · rintro ⟨s', hs', hp⟩
      cases hs'
      refine ⟨hent, fun ρ w args' H r u => callsDIn_of_wp (F := Fence.wide) (n := 0) hfn hbody trivial ?_⟩
      refine evalS_ok hc hm hL n c sb e2 hev (rd := none) (.inl rfl) H (hF0 fn r) ?_
      rintro ρ' w' a' H' F' st ⟨ms, m1, m2, _, _⟩
      rw [m2 hp] at m1
      obtain ⟨u1, hu, ru⟩ := results_ok (P := P) H' F' e1 hl
      have hback : Back ρ h w (oneOrTuple l) h' (.returned u1) w' := ⟨u1, ρ', rfl, ru, H', st⟩
      rcases hx with rfl | rfl
      · exact ⟨m1, u1, hu, hback⟩
      · exact ⟨m1, u1, hu, hback⟩
  | textB s =>
    refine ⟨.inl ?_, by rintro ⟨s, e, _⟩; cases e⟩
    obtain ⟨hent, fn, hfn, hlow⟩ := hd
    unfold lowerFnB at hlow
    split at hlow
    case h_2 => cases hlow
    rename_i c hbody
    split at hlow
    case isFalse => cases hlow
    split at hlow
    case h_2 => cases hlow
    rename_i rv sb e1 e2
    cases hlow
    simp only [runDef] at he
    obtain ⟨x, fr', h1, ds, h2, l, hev, hx, hds, hl, rfl, rfl⟩ : ∃ x fr' h1 ds h2 l, evalB call n sb (frameOf 0 args) h [] = some (x, fr', h1, ds) ∧ (x = .normal ∨ x = .ret) ∧ runDs dok call ds h1 = some h2 ∧ resA fr' h2 rv = some l ∧ v = oneOrTuple l ∧ h' = h2 := by
      split at he
      · rename_i fr' h1 ds hev
        split at he
        case h_2 => cases he
        rename_i h2 hds
        rw [Option.map_eq_some_iff] at he
        obtain ⟨l, hl, he⟩ := he
        cases he
        exact ⟨_, fr', _, ds, _, l, hev, .inl rfl, hds, hl, rfl, rfl⟩
      · rename_i fr' h1 ds hev
        split at he
        case h_2 => cases he
        rename_i h2 hds
        rw [Option.map_eq_some_iff] at he
        obtain ⟨l, hl, he⟩ := he
        cases he
        exact ⟨_, fr', _, ds, _, l, hev, .inr rfl, hds, hl, rfl, rfl⟩
      · cases he
    refine ⟨hent, fun ρ w args' H r => ?_⟩
    refine callsIn_wide.1 (callsIn_of_wp_marks (F := Fence.wide) (n := 0) hfn hbody trivial ?_)
    refine evalB_ok hc hm hL n c sb e2 hev H (hF0 fn r) .nil ?_
    intro ρ' w' a' H' F' st D
    have hout : LeavesInM Fence.wide 0 P fn a'.tmps (Back ρ h w (oneOrTuple l) h') a'.defers .returning w' := by
      refine leaves_ds hc ds a'.defers D hds H' st ?_
      intro ρ2 w2 H2 S2 hle
      obtain ⟨u, hu, ru⟩ := results_ok (P := P) H2 (F'.mono hle) e1 hl
      exact ⟨u, hu, u, ρ2, rfl, ru, H2, S2⟩
    rcases hx with rfl | rfl
    · exact hout
    · exact hout

/-- The evaluator's functions are the model's. -/
theorem evalT_ok (hm : P.follows .mixedOrders = true) (hL : ∀ nt c s, Ctx.low nt c s ↔ lowerCode P nt c = some s) {F : FuncId → Option Def} (hF : ∀ f d, F f = some d → DefOk P f d) : ∀ n, CalleeOk P (dokF F) (evalT F n)
  | 0 => by intro t args h v h' he; simp [evalT] at he
  | n + 1 => by
    intro t args h v h' he
    have ih := evalT_ok hm hL hF n
    cases t with
    | fn f =>
      simp only [evalT] at he
      split at he
      · cases he
      · rename_i d hd
        obtain ⟨q1, q2⟩ := runDef_ok ih hm hL n (hF f d hd) he
        refine ⟨q1.imp id (fun q => q.2), fun hk => q2 ?_⟩
        unfold dokF at hk
        rw [hd] at hk
        split at hk
        · rename_i s hs; cases hs; exact ⟨s, rfl, hk⟩
        · cases hk
    | it f =>
      simp only [evalT] at he
      split at he
      · cases he
      · cases he
      · rename_i d hne hd
        obtain ⟨q1, _⟩ := runDef_ok ih hm hL n (hF f d hd) he
        rcases q1 with q1 | ⟨⟨c, rfl⟩, _⟩
        · exact q1
        · exact absurd rfl (hne c)
    | yld b =>
      simp only [evalT] at he
      exact round_ok ih hm hL n b he

end
end Go.Lite
