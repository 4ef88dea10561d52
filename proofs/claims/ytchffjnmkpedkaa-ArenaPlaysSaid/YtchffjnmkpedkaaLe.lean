/-
  LITE, part e: each operation of the evaluator is the model's: the values. Own work of this session.
-/
import Derived.Test.YtchffjnmkpedkaaLd
import Derived.Laws.StructEq
import Derived.ChangeKeysEq
set_option linter.unusedSectionVars false
set_option linter.unusedSimpArgs false
set_option linter.unusedVariables false
namespace Go.Lite
set_option linter.unusedSectionVars false
set_option linter.unusedSimpArgs false
set_option linter.unusedVariables false
open Go.RowKit
variable [Ctx]

section
variable {P : Program}

/-! ### Constants -/
theorem ofCell_rel {ρ : Ren} {v : Value} {a : AV} (h : ofCell v = some a) : Rel ρ a v ∧ a ≠ .junk ∧ a.one = true := by
  unfold ofCell at h
  split at h <;> first
    | (cases h; exact ⟨by constructor, by simp, rfl⟩)
    | cases h

theorem ofCells_rel {ρ : Ren} : ∀ {l : List Value} {m : List AV}, ofCells l = some m → RelL ρ m l ∧ ∀ a ∈ m, a ≠ .junk
  | [], m, h => by simp only [ofCells, Option.some.injEq] at h; subst h; exact ⟨.nil, by simp⟩
  | v :: l, m, h => by
    simp only [ofCells] at h
    cases h1 : ofCell v with
    | none => simp [h1] at h
    | some a =>
      cases h2 : ofCells l with
      | none => simp [h1, h2] at h
      | some k =>
        simp only [h1, h2, Option.some.injEq] at h; subst h
        have e1 := ofCell_rel (ρ := ρ) h1
        have e2 := ofCells_rel (ρ := ρ) h2
        exact ⟨.cons _ _ _ _ e1.1 e2.1, by simp only [List.mem_cons, forall_eq_or_imp]; exact ⟨e1.2.1, e2.2⟩⟩

theorem ofValue_rel {ρ : Ren} {v : Value} {a : AV} (h : ofValue v = some a) : Rel ρ a v := by
  unfold ofValue at h
  split at h
  · rename_i cs
    cases h2 : ofCells cs.toList with
    | none => simp [h2] at h
    | some k => simp only [h2, Option.map_some, Option.some.injEq] at h; subst h; exact .agg _ _ (ofCells_rel h2).1
  · rename_i vs
    split at h
    · rename_i h0
      cases h
      have : vs.toList = [] := by simpa using h0
      exact .tuple _ _ (by rw [this]; exact .nil)
    · cases h
  · exact (ofCell_rel h).1

/-! ### Operands -/
/-- What the evaluator reads at an operand is what the model reads. -/
def EnvOk (ρ : Ren) (fr : Fr) (env : Operand → Value) (X : Operand) : Prop := ∀ x v, lowerOpd X = some x → opd fr x = some v → Rel ρ v (env X)

theorem envOk_of {ρ : Ren} {fr : Fr} {env : Operand → Value} (hc : ∀ v, env (.const v) = v) (hf : ∀ f, env (.func f) = .func (.func f) #[] #[]) (X : Operand)
    (ht : ∀ t, X = .tmp t → ∀ v, fr.get t = some v → Rel ρ v (env (.tmp t))) : EnvOk ρ fr env X := by
  intro x v h1 h2
  cases X with
  | tmp t => simp only [lowerOpd, Option.some.injEq] at h1; subst h1; exact ht t rfl v h2
  | const c =>
    rw [hc]
    simp only [lowerOpd] at h1
    cases h3 : ofValue c with
    | none => simp [h3] at h1
    | some a => simp only [h3, Option.map_some, Option.some.injEq] at h1; subst h1; simp only [opd, Option.some.injEq] at h2; subst h2; exact ofValue_rel h3
  | func f =>
    rw [hf]
    simp only [lowerOpd, Option.some.injEq] at h1; subst h1
    simp only [opd, Option.some.injEq] at h2; subst h2
    exact .func _ _ _ _ _ .nil .nil
  | «global» g => simp [lowerOpd] at h1

theorem envOk_list {ρ : Ren} {fr : Fr} {env : Operand → Value} : ∀ {X : List Operand}, (∀ x ∈ X, EnvOk ρ fr env x) → ∀ {l : List Opd} {vs : List AV}, lowerOpds X = some l → opds fr l = some vs → RelL ρ vs (X.map env)
  | [], _, l, vs, h1, h2 => by
    simp only [lowerOpds, Option.some.injEq] at h1; subst h1
    simp only [opds, Option.some.injEq] at h2; subst h2; exact .nil
  | x :: X, hX, l, vs, h1, h2 => by
    simp only [lowerOpds] at h1
    cases e1 : lowerOpd x with
    | none => simp [e1] at h1
    | some a =>
      cases e2 : lowerOpds X with
      | none => simp [e1, e2] at h1
      | some m =>
        simp only [e1, e2, Option.some.injEq] at h1; subst h1
        simp only [opds] at h2
        cases e3 : opd fr a with
        | none => simp [e3] at h2
        | some v =>
          cases e4 : opds fr m with
          | none => simp [e3, e4] at h2
          | some ws =>
            simp only [e3, e4, Option.some.injEq] at h2; subst h2
            exact .cons _ _ _ _ (hX x (by simp) _ _ e1 e3) (envOk_list (fun y hy => hX y (by simp [hy])) e2 e4)

/-! ### Types -/
theorem run_sizeT {t : TypeId} {n : Nat} (h : sizeT P t = some n) (w : World) : (sizeOf t).run P w = .ok n w := by
  unfold sizeT at h
  cases hi : P.info? t with
  | none => simp [hi] at h
  | some i => simp only [hi, Option.map_some, Option.some.injEq] at h; simp [sizeOf, typeInfo, hi, h]

theorem run_isAggT {t : TypeId} {b : Bool} (h : isAggT P t = some b) (w : World) : (isAgg t).run P w = .ok b w := by
  unfold isAggT at h
  unfold isAgg
  split at h
  · rename_i d hd; cases h; simp [run_underlying hd]
  · rename_i d hd; cases h; simp [run_underlying hd]
  · rename_i d h1 h2 hd
    cases h
    rw [Sem.run_bind, run_underlying hd, Result.andThen_ok]
    cases d <;> first | rfl | exact absurd rfl (h1 _) | exact absurd rfl (h2 _ _)
  · cases h

theorem aggT_spec {t : TypeId} {g : Option Nat} (h : aggT P t = some g) : ∃ n, sizeT P t = some n ∧ ((g = some n ∧ isAggT P t = some true) ∨ (g = none ∧ isAggT P t = some false)) := by
  unfold aggT at h
  split at h
  · rename_i n h1 h2; cases h; exact ⟨n, h2, .inl ⟨rfl, h1⟩⟩
  · rename_i n h1 h2; cases h; exact ⟨n, h2, .inr ⟨rfl, h1⟩⟩
  · cases h

theorem run_partA {ρ : Ren} {t : TypeId} {g : Option Nat} (hg : aggT P t = some g) {off : Nat} {cs : List AV} {us : Array Value} (hr : RelL ρ cs us.toList) {v : AV} (hv : partA off g cs = some v) (w : World) :
    ∃ u, (part t us off).run P w = .ok u w ∧ Rel ρ v u := by
  obtain ⟨n, hn, ⟨rfl, ha⟩ | ⟨rfl, ha⟩⟩ := aggT_spec hg
  · simp only [partA] at hv
    split at hv
    · rename_i hle
      cases hv
      refine ⟨.agg (us.extract off (off + n)), by simp [part, run_isAggT ha, run_sizeT hn], .agg _ _ ?_⟩
      have := RelL.take (RelL.drop hr off) n
      simpa [Array.toList_extract, List.extract_eq_take_drop] using this
    · cases hv
  · simp only [partA] at hv
    obtain ⟨u, hu, r⟩ := RelL.get hr hv
    have hu' : us[off]? = some u := by simpa using hu
    exact ⟨u, by simp [part, run_isAggT ha, hu'], r⟩

/-! ### '==' on aggregates of numbers, bools and texts -/
/-- The value of a type that is laid out in these cells. -/
def valOf (g : Bool) (us : List Value) : Value := if g then .agg us.toArray else us.headD undef

theorem flatEq_append : ∀ {k1 k2 : List CK} {x1 x2 y1 y2 : List AV} {r : Bool}, x1.length = k1.length → y1.length = k1.length → flatEq (k1 ++ k2) (x1 ++ x2) (y1 ++ y2) = some r →
    ∃ r1 r2, flatEq k1 x1 y1 = some r1 ∧ flatEq k2 x2 y2 = some r2 ∧ r = (r1 && r2)
  | [], k2, x1, x2, y1, y2, r, h1, h2, h => by
    have e1 : x1 = [] := by simpa using h1
    have e2 : y1 = [] := by simpa using h2
    subst e1; subst e2
    exact ⟨true, r, rfl, by simpa using h, by simp⟩
  | k :: k1, k2, [], x2, y1, y2, r, h1, _, _ => by simp at h1
  | k :: k1, k2, x :: x1, x2, [], y2, r, _, h2, _ => by simp at h2
  | k :: k1, k2, x :: x1, x2, y :: y1, y2, r, h1, h2, h => by
    have l1 : x1.length = k1.length := by simpa using h1
    have l2 : y1.length = k1.length := by simpa using h2
    simp only [List.cons_append] at h
    cases k <;> cases x <;> cases y <;> simp only [flatEq, reduceCtorEq] at h ⊢
    · rename_i k0 k1' n1 k2' n2
      split at h
      · rename_i hk
        rw [Option.map_eq_some_iff] at h
        obtain ⟨r', hr', rfl⟩ := h
        obtain ⟨r1, r2, e1, e2, rfl⟩ := flatEq_append l1 l2 hr'
        exact ⟨_, r2, by rw [if_pos hk, e1]; rfl, e2, by simp [Bool.and_assoc]⟩
      · cases h
    all_goals
      rw [Option.map_eq_some_iff] at h
      obtain ⟨r', hr', rfl⟩ := h
      obtain ⟨r1, r2, e1, e2, rfl⟩ := flatEq_append l1 l2 hr'
      exact ⟨_, r2, by rw [e1]; rfl, e2, by simp [Bool.and_assoc]⟩

theorem flatEq_length : ∀ {k : List CK} {x y : List AV} {r : Bool}, flatEq k x y = some r → x.length = k.length ∧ y.length = k.length
  | [], x, y, r, h => by cases x <;> cases y <;> simp_all [flatEq]
  | k :: ks, x, y, r, h => by
    cases x with
    | nil => cases k <;> cases y <;> simp [flatEq] at h
    | cons x xs =>
      cases y with
      | nil => cases k <;> cases x <;> simp [flatEq] at h
      | cons y ys =>
        have : ∃ r', flatEq ks xs ys = some r' := by
          cases k <;> cases x <;> cases y <;> simp only [flatEq, reduceCtorEq] at h
          · split at h
            · rw [Option.map_eq_some_iff] at h; obtain ⟨r', hr', _⟩ := h; exact ⟨r', hr'⟩
            · cases h
          all_goals (rw [Option.map_eq_some_iff] at h; obtain ⟨r', hr', _⟩ := h; exact ⟨r', hr'⟩)
        obtain ⟨r', hr'⟩ := this
        have := flatEq_length hr'
        simp [this.1, this.2]

theorem run_part_valOf {t : TypeId} {n : Nat} {g : Bool} (hn : sizeT P t = some n) (hg : isAggT P t = some g) (us : List Value) (off : Nat) (hle : off + n ≤ us.length) (h1 : g = false → n = 1) (w : World) :
    (part t us.toArray off).run P w = .ok (valOf g ((us.drop off).take n)) w := by
  cases g
  · obtain rfl := h1 rfl
    have hlt : off < us.length := by omega
    simp only [part, Sem.run_bind, run_isAggT hg, Result.andThen_ok, Bool.false_eq_true, if_false]
    have : us.toArray[off]? = some us[off] := by simp [hlt]
    rw [this]
    simp only [Sem.run_pure, valOf, Bool.false_eq_true, if_false]
    congr 1
    rw [List.take_one, List.head?_drop, List.getElem?_eq_getElem hlt]
    rfl
  · simp only [part, Sem.run_bind, run_isAggT hg, Result.andThen_ok, if_true, run_sizeT hn, Sem.run_pure, valOf]
    congr 2
    simp [List.extract_toArray, List.extract_eq_take_drop]

/-- What '==' comes to at a type that is looked at cell by cell. -/
def FlatOk (P : Program) (d : Nat) : Prop := ∀ (t : TypeId) (ks : List CK), flatT P d t = some ks → ∀ (D : Nat), d ≤ D → ∀ (g : Bool), isAggT P t = some g → (g = false → ks.length = 1) ∧
    ∀ {ρ : Ren} {xs ys : List AV} {r : Bool} {us vs : List Value}, flatEq ks xs ys = some r → RelL ρ xs us → RelL ρ ys vs → ∀ w : World, (Op.equalIn D t (valOf g us) (valOf g vs)).run P w = .ok r w

theorem eqFields_flat (d : Nat) (IH : FlatOk P d) : ∀ {fs : List Field} {ks : List CK} {off : Nat}, flatF P (flatT P d) off fs = some ks → ∀ (D : Nat), d ≤ D → ∀ {ρ : Ren} {xs ys : List AV} {r : Bool}, flatEq ks xs ys = some r →
    ∀ {us vs : List Value}, RelL ρ xs (us.drop off) → RelL ρ ys (vs.drop off) → ∀ w : World, (Op.eqFields D us.toArray vs.toArray fs).run P w = .ok r w
  | [], ks, off, h, D, _, ρ, xs, ys, r, hr, us, vs, hx, hy, w => by
    simp only [flatF, Option.some.injEq] at h; subst h
    have := flatEq_length hr
    simp at this
    obtain ⟨rfl, rfl⟩ := this
    simp [flatEq] at hr; subst hr
    simp [Op.eqFields]
  | f :: fs, ks, off, h, D, hD, ρ, xs, ys, r, hr, us, vs, hx, hy, w => by
    simp only [flatF] at h
    split at h
    · rename_i hf
      split at h
      · rename_i n l ge hn hl hge
        split at h
        · rename_i hln
          rw [Option.map_eq_some_iff] at h
          obtain ⟨ks', hks', rfl⟩ := h
          obtain ⟨c1, c2⟩ := IH _ _ hl D hD _ hge
          have hll := flatEq_length hr
          simp only [List.length_append] at hll
          have hx1 : xs = xs.take n ++ xs.drop n := (List.take_append_drop n xs).symm
          have hy1 : ys = ys.take n ++ ys.drop n := (List.take_append_drop n ys).symm
          rw [hx1, hy1] at hr
          obtain ⟨r1, r2, e1, e2, rfl⟩ := flatEq_append (by simp; omega) (by simp; omega) hr
          have hu1 := RelL.length hx
          have hv1 := RelL.length hy
          simp only [List.length_drop] at hu1 hv1
          have p1 := run_part_valOf (P := P) hn hge us off (by omega) (fun hgf => by rw [← hln.1]; exact c1 hgf) w
          have p2 := run_part_valOf (P := P) hn hge vs off (by omega) (fun hgf => by rw [← hln.1]; exact c1 hgf) w
          have p3 := c2 e1 (RelL.take hx n) (RelL.take hy n) w
          have ih := eqFields_flat d IH hks' D hD e2 (us := us) (vs := vs) (by have := RelL.drop hx n; rwa [List.drop_drop] at this) (by have := RelL.drop hy n; rwa [List.drop_drop] at this) w
          simp only [Op.eqFields, if_pos hf.1, Sem.run_bind, hf.2, p1, p2, p3, Result.andThen_ok]
          cases r1
          · simp
          · simpa using ih
        · cases h
      · cases h
    · cases h
theorem equalIn_flat : ∀ (d : Nat), FlatOk P d
  | 0 => by intro t ks h; simp [flatT] at h
  | d + 1 => by
    intro t ks h D hD g hg
    have IH : FlatOk P d := equalIn_flat d
    obtain ⟨D, rfl⟩ : ∃ m, D = m + 1 := ⟨D - 1, by omega⟩
    simp only [flatT] at h
    split at h
    · rename_i k hu
      cases h
      have : g = false := by unfold isAggT at hg; simp [hu] at hg; exact hg.symm ▸ rfl
      subst this
      refine ⟨fun _ => rfl, ?_⟩
      intro ρ xs ys r us vs hr hx hy w
      obtain ⟨l1, l2⟩ := flatEq_length hr
      match xs, ys, us, vs, hx, hy, l1, l2 with
      | [x], [y], [u], [v], .cons _ _ _ _ rx _, .cons _ _ _ _ ry _, _, _ =>
        cases x <;> cases y <;> simp only [flatEq, reduceCtorEq] at hr
        split at hr
        · rename_i hk
          obtain ⟨rfl, rfl⟩ := hk
          simp at hr; subst hr
          cases rx; cases ry
          simp only [valOf, Bool.false_eq_true, if_false, List.headD_cons]
          exact run_equalIn_int w D t _ _ _ _ hu
        · cases hr
    · rename_i hu
      cases h
      have : g = false := by unfold isAggT at hg; simp [hu] at hg; exact hg.symm ▸ rfl
      subst this
      refine ⟨fun _ => rfl, ?_⟩
      intro ρ xs ys r us vs hr hx hy w
      obtain ⟨l1, l2⟩ := flatEq_length hr
      match xs, ys, us, vs, hx, hy, l1, l2 with
      | [x], [y], [u], [v], .cons _ _ _ _ rx _, .cons _ _ _ _ ry _, _, _ =>
        cases x <;> cases y <;> simp only [flatEq, reduceCtorEq] at hr
        simp at hr; subst hr
        cases rx; cases ry
        simp only [valOf, Bool.false_eq_true, if_false, List.headD_cons]
        exact run_equalIn_bool' w D t _ _ hu
    · rename_i hu
      cases h
      have : g = false := by unfold isAggT at hg; simp [hu] at hg; exact hg.symm ▸ rfl
      subst this
      refine ⟨fun _ => rfl, ?_⟩
      intro ρ xs ys r us vs hr hx hy w
      obtain ⟨l1, l2⟩ := flatEq_length hr
      match xs, ys, us, vs, hx, hy, l1, l2 with
      | [x], [y], [u], [v], .cons _ _ _ _ rx _, .cons _ _ _ _ ry _, _, _ =>
        cases x <;> cases y <;> simp only [flatEq, reduceCtorEq] at hr
        simp at hr; subst hr
        cases rx; cases ry
        simp only [valOf, Bool.false_eq_true, if_false, List.headD_cons]
        rw [run_equalIn_string w D t _ _ hu, beq_toListBytes]
    · rename_i fields hu
      split at h
      · cases h
      · rename_i hst
        have : g = true := by unfold isAggT at hg; simp [hu] at hg; exact hg.symm ▸ rfl
        subst this
        refine ⟨fun e => (by cases e), ?_⟩
        intro ρ xs ys r us vs hr hx hy w
        have hfo : P.fieldsOf t = fields := by simp [Program.fieldsOf, hu]
        simp only [valOf, if_true]
        rw [run_equalIn_struct w D t us.toArray vs.toArray (by rw [hfo]; exact hu) (by simpa using hst), hfo]
        exact eqFields_flat d IH h D (by omega) (by simpa using hr) (us := us) (vs := vs) (by simpa using hx) (by simpa using hy) w
    · rename_i len e hu
      split at h
      · rename_i n l hn hl
        split at h
        · rename_i hln
          cases h
          have hn0 := hln.2
          have hn1 := hln.1
          have : g = true := by unfold isAggT at hg; simp [hu] at hg; exact hg.symm ▸ rfl
          subst this
          refine ⟨fun e => (by cases e), ?_⟩
          intro ρ xs ys r us vs hr hx hy w
          obtain ⟨i, hi⟩ : ∃ i, P.info? e = some i := by
            unfold sizeT at hn; cases hi : P.info? e with
            | none => simp [hi] at hn
            | some i => exact ⟨i, rfl⟩
          have hc : P.cellsOf e = n := by unfold sizeT at hn; simp [hi] at hn; simp [Program.cellsOf, hi, hn]
          simp only [valOf, if_true]
          rw [run_equalIn_array w D us.toArray vs.toArray hu hi, hc]
          have hag : ∃ ge, isAggT P e = some ge := by
            have : ∃ dd, P.underlying e = some dd := by
              unfold Program.underlying; rw [hi]
              cases d with
              | zero => simp [flatT] at hl
              | succ d =>
                simp only [flatT] at hl
                cases hu2 : P.underlying e with
                | none => simp [hu2] at hl
                | some dd => unfold Program.underlying at hu2; rw [hi] at hu2; exact ⟨dd, hu2⟩
            obtain ⟨dd, hdd⟩ := this
            unfold isAggT
            rw [hdd]
            cases dd <;> simp
          obtain ⟨ge, hge⟩ := hag
          obtain ⟨c1, c2⟩ := IH _ _ hl D (by omega) _ hge
          -- item by item
          have key : ∀ (m j : Nat), j + m = len → ∀ (xs' ys' : List AV) (r' : Bool), flatEq (List.replicate m l).flatten xs' ys' = some r' → RelL ρ xs' (us.drop (j * n)) → RelL ρ ys' (vs.drop (j * n)) →
              (Op.eqItems D e n us.toArray vs.toArray (List.range' j m)).run P w = .ok r' w := by
            intro m
            induction m with
            | zero =>
              intro j _ xs' ys' r' h1 _ _
              have := flatEq_length h1
              simp at this
              obtain ⟨rfl, rfl⟩ := this
              simp [flatEq] at h1; subst h1
              simp [Op.eqItems]
            | succ m ih =>
              intro j hj xs' ys' r' h1 h2 h3
              have hll := flatEq_length h1
              simp only [List.replicate_succ, List.flatten_cons, List.length_append] at hll
              have hx1 : xs' = xs'.take n ++ xs'.drop n := (List.take_append_drop n xs').symm
              have hy1 : ys' = ys'.take n ++ ys'.drop n := (List.take_append_drop n ys').symm
              rw [hx1, hy1, List.replicate_succ, List.flatten_cons] at h1
              obtain ⟨r1, r2, e1, e2, rfl⟩ := flatEq_append (by simp; omega) (by simp; omega) h1
              have hu1 := RelL.length h2
              have hv1 := RelL.length h3
              simp only [List.length_drop] at hu1 hv1
              have p1 := run_part_valOf (P := P) hn hge us (j * n) (by omega) (fun hgf => by rw [← hln.1]; exact c1 hgf) w
              have p2 := run_part_valOf (P := P) hn hge vs (j * n) (by omega) (fun hgf => by rw [← hln.1]; exact c1 hgf) w
              have p3 := c2 e1 (RelL.take h2 n) (RelL.take h3 n) w
              have ih' := ih (j + 1) (by omega) _ _ _ e2
                (by have := RelL.drop h2 n; rw [List.drop_drop] at this; rwa [show (j + 1) * n = j * n + n by rw [Nat.add_mul]; omega])
                (by have := RelL.drop h3 n; rw [List.drop_drop] at this; rwa [show (j + 1) * n = j * n + n by rw [Nat.add_mul]; omega])
              simp only [List.range'_succ, Op.eqItems, Sem.run_bind, p1, p2, p3, Result.andThen_ok]
              cases r1
              · simp
              · simpa using ih'
          have := key len 0 (by omega) xs ys r (by simpa using hr) (by simpa using hx) (by simpa using hy)
          simpa [List.range_eq_range'] using this
        · cases h
      · cases h
    · cases h


end
end Go.Lite
