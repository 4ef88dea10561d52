/-
  LITE, part x: maps. Own work of this session.
-/
import Derived.Test.YtchffjnmkpedkaaLk
import Derived.MapKept
import Derived.Laws.NewFold
set_option linter.unusedSectionVars false
set_option linter.unusedSimpArgs false
set_option linter.unusedVariables false
namespace Go.Lite
set_option linter.unusedSectionVars false
set_option linter.unusedSimpArgs false
set_option linter.unusedVariables false
open Go.RowKit Go.MapKept
variable [Ctx]

section
variable {P : Program} {ρ : Ren} {h h' : Hp} {w : World} {fr : Fr} {env : Operand → Value}

theorem entsL_append : ∀ (a b : List MapEntry), entsL (a ++ b) = entsL a ++ entsL b
  | [], b => rfl
  | e :: a, b => by simp [entsL, entsL_append a b]

/-- What the keys of a map are, to the model. -/
def keyDesc : CK → TypeDesc → Prop
  | .int k, .int k' => k = k'
  | .str, .string => True
  | .bool, .bool => True
  | _, _ => False

theorem keyEq_ok {c : CK} {d : TypeDesc} (hd : keyDesc c d) {x a : AV} {u k : Value} (hx : Rel ρ x u) (ha : Rel ρ a k) {b : Bool} (he : keyEq c x a = some b) : Instr.sameNow d u k = some b := by
  unfold keyEq at he
  split at he
  · split at he
    · rename_i hk
      cases hx; cases ha
      subst hk
      cases d <;> simp only [keyDesc] at hd
      cases he
      simp [Instr.sameNow]
    · cases he
  · cases hx; cases ha
    cases d <;> simp only [keyDesc] at hd
    cases he
    simp [Instr.sameNow]
  · cases hx; cases ha
    cases d <;> simp only [keyDesc] at hd
    cases he
    simp [Instr.sameNow]
  · cases he

theorem keyEq_same {c : CK} {x a : AV} {u k : Value} (hx : Rel ρ x u) (ha : Rel ρ a k) (he : keyEq c x a = some true) : k = u := by
  unfold keyEq at he
  split at he
  · split at he
    · rename_i hk
      cases hx; cases ha
      subst hk
      simp only [Option.some.injEq, beq_iff_eq] at he; rw [he]
    · cases he
  · cases hx; cases ha; simp only [Option.some.injEq] at he; rw [bytes_beq] at he; simp_all
  · cases hx; cases ha; simp only [Option.some.injEq, beq_iff_eq] at he; rw [he]
  · cases he

theorem keyOk_ok {c : CK} {d : TypeDesc} (hd : keyDesc c d) {x : AV} {u : Value} (hx : Rel ρ x u) (h : keyOk c x = true) : IsKey d u := by
  unfold keyOk at h
  split at h
  · cases hx; cases d <;> simp only [keyDesc] at hd
    simp only [beq_iff_eq] at h
    simp only [IsKey]; rw [← h, hd]
  · cases hx; cases d <;> simp only [keyDesc] at hd
    trivial
  · cases hx; cases d <;> simp only [keyDesc] at hd
    trivial
  · cases h

theorem mapFind_ok {c : CK} {d : TypeDesc} (hd : keyDesc c d) {x : AV} {u : Value} (hx : Rel ρ x u) : ∀ (es : List MapEntry) (cells : List AV) (i : Nat), RelL ρ cells (entsL es) → ∀ {r : Option (Nat × AV)}, mapFind c x cells i = some r →
    ∃ r', Instr.findNow d u es i = some r' ∧ (match r, r' with
      | none, none => True
      | some (j, v), some (j', v') => j' = j ∧ i ≤ j ∧ Rel ρ v v' ∧ ∃ e, es[j - i]? = some e ∧ e.val = v' ∧ e.key = u
      | _, _ => False)
  | [], cells, i, hr, r, he => by
    simp only [entsL] at hr
    cases hr
    simp only [mapFind, Option.some.injEq] at he; subst he
    exact ⟨none, rfl, trivial⟩
  | e :: es, cells, i, hr, r, he => by
    simp only [entsL] at hr
    cases hr with
    | cons a _ cells1 _ ha hr1 =>
    cases hr1 with
    | cons v _ l _ hv hr2 =>
    simp only [mapFind] at he
    split at he
    · rename_i hq
      cases he
      refine ⟨some (i, e.val), ?_, rfl, Nat.le_refl _, hv, e, by simp, rfl, keyEq_same hx ha hq⟩
      simp only [Instr.findNow, keyEq_ok hd hx ha hq]
    · rename_i hq
      obtain ⟨r', q1, q2⟩ := mapFind_ok hd hx es l (i + 1) hr2 he
      refine ⟨r', by simp only [Instr.findNow, keyEq_ok hd hx ha hq]; exact q1, ?_⟩
      cases r with
      | none => cases r' with
        | none => trivial
        | some p => exact q2
      | some p => cases r' with
        | none => exact q2
        | some p' =>
          obtain ⟨q3, q4, q5, e2, q6, q7, q8⟩ := q2
          refine ⟨q3, by omega, q5, e2, ?_, q7, q8⟩
          rw [show p.1 - i = (p.1 - (i + 1)) + 1 by omega]; simpa using q6
    · cases he

/-- A map that has been changed. -/
theorem setMap_ok (H : HRel ρ h w) {b : Nat} {k : Blk} {l : Loc} {clk0 : Nat} {bs0 : List Nat} (hk : h.get b = some k) (hkm : k.kind = .map clk0 bs0) (hl : ρ b = some l)
    {es' : Array MapEntry} {clock' : Nat} {bs' : List Nat} {cells' : List AV} (hb : es'.toList.map (·.born) = bs') (hr : RelL ρ cells' (entsL es'.toList)) :
    HRel ρ (h.put b ⟨cells', .map clock' bs'⟩) { w with heap := w.heap.setIfInBounds l.row (.map es' clock') } ∧
    Step ρ h w ρ (h.put b ⟨cells', .map clock' bs'⟩) { w with heap := w.heap.setIfInBounds l.row (.map es' clock') } := by
  have hlt : l.row < w.heap.size := (H.dom b l hl).2
  have hro : k.kind ≠ .ro := by rw [hkm]; simp
  have hsame : (w.heap.setIfInBounds l.row (.map es' clock'))[l.row]? = some (.map es' clock') := by
    rw [Array.getElem?_setIfInBounds, if_pos rfl, if_pos hlt]
  refine H.setRow hk hro hl (k' := ⟨cells', .map clock' bs'⟩) (by simp) (.map es' clock') ?_
  refine ⟨fun hh => absurd rfl hh, fun c bs hh => ?_, fun m s sn la hh => (by cases hh), fun r hh => (by cases hh)⟩
  cases hh
  exact ⟨es', hsame, hb, hr⟩

theorem RelL.ents_set {d : TypeDesc} {x v : AV} {u y : Value} (hx : Rel ρ x u) (hv : Rel ρ v y) : ∀ (es : List MapEntry) (cells : List AV) (j : Nat), RelL ρ cells (entsL es) →
    RelL ρ ((cells.set (2 * j) x).set (2 * j + 1) v) (entsL (es.modify j fun e => { e with key := u, val := y }))
  | [], cells, j, h => by simp only [entsL] at h; cases h; simpa [entsL] using .nil
  | e :: es, cells, 0, h => by
    simp only [entsL] at h
    cases h with
    | cons a _ cells1 _ ha h1 =>
    cases h1 with
    | cons b _ l _ hb h2 =>
    simp only [List.modify_cons, entsL]
    exact .cons _ _ _ _ hx (.cons _ _ _ _ hv h2)
  | e :: es, cells, j + 1, h => by
    simp only [entsL] at h
    cases h with
    | cons a _ cells1 _ ha h1 =>
    cases h1 with
    | cons b _ l _ hb h2 =>
    have := RelL.ents_set (d := d) hx hv es l j h2
    simp only [List.modify_succ_cons, entsL, show 2 * (j + 1) = 2 * j + 1 + 1 by omega, List.set_cons_succ]
    exact .cons _ _ _ _ ha (.cons _ _ _ _ hb this)

/-- A key's value, looked up. -/
theorem lookup_some_ok (H : HRel ρ h w) {t kt et : TypeId} {d : TypeDesc} {c : CK} (ht : P.underlying t = some (.map kt et)) (hk : P.underlying kt = some d) (hd : keyDesc c d) {z : Value} (hz : (zeroValue et).run P w = .ok z w) {zero : AV} (rz : Rel ρ zero z)
    {b : Nat} {cells : List AV} {clk : Nat} {bs : List Nat} (hb : h.get b = some ⟨cells, .map clk bs⟩) {mv u : Value} (rm : Rel ρ (.map (some b)) mv) {x : AV} (rx : Rel ρ x u) (hx : keyOk c x = true) {r : Option (Nat × AV)} (hf : mapFind c x cells 0 = some r) (ok : Bool) :
    ∃ v', (Instr.lookup t mv u ok).run P w = .ok v' w ∧ Rel ρ (match r with | some (_, v) => if ok then .tuple [v, .bool true] else v | none => if ok then .tuple [zero, .bool false] else zero) v' := by
  cases rm with
  | map _ l hl =>
  obtain ⟨es, h1, _, h2⟩ := (H.blk b _ l hb hl).2.1 _ _ rfl
  obtain ⟨r', q1, q2⟩ := mapFind_ok hd rx es.toList cells 0 h2 hf
  have hik := keyOk_ok hd rx hx
  cases r with
  | none =>
    cases r' with
    | some p => exact absurd q2 id
    | none =>
      refine ⟨if ok then .tuple #[z, .bool false] else z, ?_, ?_⟩
      · simp [Instr.lookup, run_underlying ht, Go.MapKept.run_getObj_map h1, run_checkKey hk hik, run_findKey hk q1, hz]
      · cases ok
        · exact rz
        · exact .tuple _ _ (.cons _ _ _ _ rz (.cons _ _ _ _ (.bool _) .nil))
  | some p =>
    cases r' with
    | none => exact absurd q2 id
    | some p' =>
      obtain ⟨_, _, rv, _⟩ := q2
      refine ⟨if ok then .tuple #[p'.2, .bool true] else p'.2, ?_, ?_⟩
      · simp [Instr.lookup, run_underlying ht, Go.MapKept.run_getObj_map h1, run_checkKey hk hik, run_findKey hk q1]
      · cases ok
        · exact rv
        · exact .tuple _ _ (.cons _ _ _ _ rv (.cons _ _ _ _ (.bool _) .nil))

theorem lookup_none_ok {t kt et : TypeId} {d : TypeDesc} {c : CK} (ht : P.underlying t = some (.map kt et)) (hk : P.underlying kt = some d) (hd : keyDesc c d) {z : Value} (hz : (zeroValue et).run P w = .ok z w) {zero : AV} (rz : Rel ρ zero z)
    {mv u : Value} (rm : Rel ρ (.map none) mv) {x : AV} (rx : Rel ρ x u) (hx : keyOk c x = true) (ok : Bool) :
    ∃ v', (Instr.lookup t mv u ok).run P w = .ok v' w ∧ Rel ρ (if ok then .tuple [zero, .bool false] else zero) v' := by
  cases rm
  have hik := keyOk_ok hd rx hx
  refine ⟨if ok then .tuple #[z, .bool false] else z, ?_, ?_⟩
  · simp [Instr.lookup, run_underlying ht, run_checkKey hk hik, run_findKey hk (a := none) (l := []) rfl, hz]
  · cases ok
    · exact rz
    · exact .tuple _ _ (.cons _ _ _ _ rz (.cons _ _ _ _ (.bool _) .nil))

theorem modify_borns (es : Array MapEntry) (i : Nat) (u y : Value) : (es.modify i fun e => { e with key := u, val := y }).toList.map (·.born) = es.toList.map (·.born) := by
  apply List.ext_getElem?
  intro j
  simp only [List.getElem?_map, Array.getElem?_toList, Array.getElem?_modify]
  by_cases hij : i = j
  · subst hij
    cases he : es[i]? with
    | none => simp
    | some e => simp
  · simp [hij]

theorem mapUpd_ok (H : HRel ρ h w) {t kt et : TypeId} {d : TypeDesc} {c : CK} (ht : P.underlying t = some (.map kt et)) (hk : P.underlying kt = some d) (hd : keyDesc c d)
    {b : Nat} {cells : List AV} {clk : Nat} {bs : List Nat} (hb : h.get b = some ⟨cells, .map clk bs⟩) {mv u y : Value} (rm : Rel ρ (.map (some b)) mv) {x v : AV} (rx : Rel ρ x u) (rv : Rel ρ v y) (hx : keyOk c x = true) {l' : Blk} (hf : mapSet c x v cells clk bs = some l') :
    ∃ w', (Instr.mapUpdate t mv u y).run P w = .ok () w' ∧ HRel ρ (h.put b l') w' ∧ Step ρ h w ρ (h.put b l') w' := by
  cases rm with
  | map _ l hl =>
  obtain ⟨es, h1, hbn, h2⟩ := (H.blk b _ l hb hl).2.1 _ _ rfl
  have hik := keyOk_ok hd rx hx
  unfold mapSet at hf
  split at hf
  · rename_i j v0 hq
    cases hf
    obtain ⟨r', q1, q2⟩ := mapFind_ok hd rx es.toList cells 0 h2 hq
    cases r' with
    | none => exact absurd q2 id
    | some p' =>
      obtain ⟨j', v'⟩ := p'
      obtain ⟨rfl, _, _, e, q6, _, q8⟩ := q2
      have hj : es[j']? = some e := by simpa using q6
      have S := setMap_ok H hb rfl hl (es' := es.modify j' fun e => { e with key := u, val := y }) (clock' := clk) (bs' := bs) (cells' := (cells.set (2 * j') x).set (2 * j' + 1) v)
        (by rw [modify_borns, hbn]) (by rw [Array.toList_modify]; exact RelL.ents_set (d := d) rx rv _ _ _ h2)
      refine ⟨_, ?_, S⟩
      simp [Instr.mapUpdate, run_underlying ht, Go.MapKept.run_getObj_map h1, run_checkKey hk hik, run_findKey hk q1, hj, q8, run_keyThatStays hik, Go.MapKept.run_setObj_map _ h1]
  · rename_i hq
    cases hf
    obtain ⟨r', q1, q2⟩ := mapFind_ok hd rx es.toList cells 0 h2 hq
    cases r' with
    | some p => exact absurd q2 id
    | none =>
      have S := setMap_ok H hb rfl hl (es' := es.push { key := u, val := y, born := clk }) (clock' := clk + 1) (bs' := bs ++ [clk]) (cells' := cells ++ [x, v])
        (by rw [Array.toList_push, List.map_append, hbn]; rfl) (by rw [Array.toList_push, entsL_append]; exact RelL.append h2 (.cons _ _ _ _ rx (.cons _ _ _ _ rv .nil)))
      refine ⟨_, ?_, S⟩
      simp [Instr.mapUpdate, run_underlying ht, Go.MapKept.run_getObj_map h1, run_checkKey hk hik, run_findKey hk q1, Go.MapKept.run_setObj_map _ h1]
  · cases hf

/-! ### Entries that go -/
theorem RelL.ents_erase : ∀ (es : List MapEntry) (cells : List AV) (j : Nat), RelL ρ cells (entsL es) → RelL ρ ((cells.eraseIdx (2 * j)).eraseIdx (2 * j)) (entsL (es.eraseIdx j))
  | [], cells, j, h => by simp only [entsL] at h; cases h; simpa [entsL] using .nil
  | e :: es, cells, 0, h => by
    simp only [entsL] at h
    cases h with
    | cons a _ cells1 _ ha h1 =>
    cases h1 with
    | cons b _ l _ hb h2 => simpa using h2
  | e :: es, cells, j + 1, h => by
    simp only [entsL] at h
    cases h with
    | cons a _ cells1 _ ha h1 =>
    cases h1 with
    | cons b _ l _ hb h2 =>
    have := RelL.ents_erase es l j h2
    simp only [show 2 * (j + 1) = 2 * j + 1 + 1 by omega, List.eraseIdx_cons_succ, entsL]
    exact .cons _ _ _ _ ha (.cons _ _ _ _ hb this)

theorem eraseIn (es : Array MapEntry) (i : Nat) : (es.eraseIdxIfInBounds i).toList = es.toList.eraseIdx i := by
  unfold Array.eraseIdxIfInBounds
  split
  · simp
  · rename_i hi
    rw [List.eraseIdx_of_length_le (by simpa using hi)]

theorem map_eraseIdx {α β : Type} (f : α → β) : ∀ (l : List α) (i : Nat), (l.eraseIdx i).map f = (l.map f).eraseIdx i
  | [], _ => rfl
  | _ :: _, 0 => rfl
  | a :: l, i + 1 => by simp [map_eraseIdx f l i]

theorem keyKind_spec {t : TypeId} {c : CK} (h : keyKind P t = some c) : ∃ d, P.underlying t = some d ∧ keyDesc c d := by
  unfold keyKind at h
  split at h
  · rename_i k hu; cases h; exact ⟨_, hu, rfl⟩
  · rename_i hu; cases h; exact ⟨_, hu, trivial⟩
  · rename_i hu; cases h; exact ⟨_, hu, trivial⟩
  · cases h

theorem del_ok {t : TypeId} {M K : Operand} {x : O} (hl : lowerDel P t M K = some x) (H : HRel ρ h w) {out : Out} (he : evalO fr h x = some (out, h')) (hM : EnvOk ρ fr env M) (hK : EnvOk ρ fr env K) {at' : Array TypeId} (h0 : at'[0]? = some t) (ty : TypeId) :
    ValOk P ρ h w (Builtin.delete_ at' ty #[env M, env K]) out h' := by
  unfold lowerDel at hl
  split at hl
  case h_2 => cases hl
  rename_i kt et hu
  split at hl
  case h_2 => cases hl
  rename_i c a b e1 e2 e3
  cases hl
  obtain ⟨d, hk, hd⟩ := keyKind_spec e1
  simp only [evalO] at he
  split at he
  case h_2 => cases he
  rename_i bb xv f1 f2
  split at he
  case h_2 => cases he
  rename_i cells clk bs hb
  split at he
  case isFalse => cases he
  rename_i hx
  have rm := hM _ _ e2 f1
  have rx := hK _ _ e3 f2
  cases hm : env M <;> rw [hm] at rm <;> cases rm
  rename_i l hl
  obtain ⟨es, h1, hbn, h2⟩ := (H.blk bb _ l hb hl).2.1 _ _ rfl
  have hik := keyOk_ok hd rx hx
  split at he
  · rename_i j v0 hq
    cases he
    obtain ⟨r', q1, q2⟩ := mapFind_ok hd rx es.toList cells 0 h2 hq
    cases r' with
    | none => exact absurd q2 id
    | some p' =>
      obtain ⟨j', v'⟩ := p'
      obtain ⟨rfl, _, _, e, q6, _, q8⟩ := q2
      have S := setMap_ok H hb rfl hl (es' := es.eraseIdxIfInBounds j') (clock' := clk) (bs' := bs.eraseIdx j') (cells' := (cells.eraseIdx (2 * j')).eraseIdx (2 * j'))
        (by rw [eraseIn, map_eraseIdx, hbn]) (by rw [eraseIn]; exact RelL.ents_erase _ _ _ h2)
      refine ⟨.undef, .tuple #[], _, ρ, rfl, ?_, .tuple _ _ .nil, S.1, S.2⟩
      simp [Builtin.delete_, h0, run_underlying hu, Go.MapKept.run_getObj_map h1, run_checkKey hk hik, run_findKey hk q1, Go.MapKept.run_setObj_map _ h1]
  · rename_i hq
    cases he
    obtain ⟨r', q1, q2⟩ := mapFind_ok hd rx es.toList cells 0 h2 hq
    cases r' with
    | some p => exact absurd q2 id
    | none =>
      have S := setMap_ok H hb rfl hl (es' := es) (clock' := clk) (bs' := bs) (cells' := cells) hbn h2
      refine ⟨.undef, .tuple #[], _, ρ, rfl, ?_, .tuple _ _ .nil, S.1, S.2⟩
      simp [Builtin.delete_, h0, run_underlying hu, Go.MapKept.run_getObj_map h1, run_checkKey hk hik, run_findKey hk q1, Go.MapKept.run_setObj_map _ h1]
  · cases he

theorem clear_ok {t : TypeId} {X : Operand} {x : O} (hl : lowerClear P t X = some x) (H : HRel ρ h w) {out : Out} (he : evalO fr h x = some (out, h')) (hX : EnvOk ρ fr env X) {at' : Array TypeId} (h0 : at'[0]? = some t) (ty : TypeId) :
    ValOk P ρ h w (Builtin.clear_ at' ty #[env X]) out h' := by
  unfold lowerClear at hl
  split at hl
  case h_2 => cases hl
  rename_i e hu
  split at hl
  case h_2 => cases hl
  rename_i zl a e1 e2
  cases hl
  obtain ⟨i, z, hi, hz1, hz2⟩ := zeroT_spec e1
  simp only [evalO] at he
  split at he
  · rename_i base cap f1
    cases he
    have r := hX _ _ e2 f1
    refine ⟨.undef, .tuple #[], w, ρ, rfl, ?_, .tuple _ _ .nil, H, Step.refl _ _ _⟩
    cases hx : env X <;> rw [hx] at r <;> cases r <;> simp [Builtin.clear_, h0, run_underlying hu]
  · rename_i p n cap hne f1
    rw [Option.map_eq_some_iff] at he
    obtain ⟨h1, hw, he⟩ := he
    cases he
    have r := hX _ _ e2 f1
    have hn : n ≠ 0 := by rintro rfl; exact hne rfl
    have hz := (ofCells_rel (ρ := ρ) hz2).1
    have key : ∀ (l : Loc) (off c : Nat), ρ p.1 = some l → off = l.base + p.2 → env X = .slice (some ⟨l.row, off, none⟩) n c → ValOk P ρ h w (Builtin.clear_ at' ty #[env X]) (.val .undef) h' := by
      intro l off c hl hoff hx
      obtain ⟨w', q1, q2, q3⟩ := write_ok (P := P) H hl (RelL.flatten_replicate hz n) hw (a := ⟨l.row, off, none⟩) (by rw [hoff])
      refine ⟨.undef, .tuple #[], w', ρ, rfl, ?_, .tuple _ _ .nil, q2, q3⟩
      rw [hx]
      obtain ⟨m, rfl⟩ : ∃ m, n = m + 1 := ⟨n - 1, by omega⟩
      simp only [Builtin.clear_, h0, List.getElem?_toArray, List.getElem?_cons_zero, Sem.run_bind, run_underlying hu, Result.andThen_ok, run_zero hi hz1, zeroCells_toList, q1]
      rfl
    obtain ⟨pb, po⟩ := p
    cases hx : env X <;> rw [hx] at r <;> cases r
    · rename_i l hl hc hnc
      rw [← hx]; exact key _ _ _ hl (hc.resolve_left (by omega)) hx
    · rename_i l hl hc hnc ht
      rw [← hx]; exact key _ _ _ hl (hc.resolve_left hn) hx
  · cases he

theorem call_ok {c : Call} {x : O} (hl : lowerCall P c = some x) (H : HRel ρ h w) {out : Out} (he : evalO fr h x = some (out, h'))
    (hop : ∀ X ∈ c.operands.toList, EnvOk ρ fr env X) (ty : TypeId) :
    OpOk P ρ h w (do let d ← resolve env c ty; invoke d.target d.args : Sem Next) out h' := by
  unfold lowerCall at hl
  have hmem : ∀ X ∈ c.args.toList, EnvOk ρ fr env X := fun X hX => hop X (by
    unfold Call.operands
    have : X ∈ c.args := by simpa using hX
    cases c.callee <;> simp [this])
  split at hl
  · -- a function
    rename_i f hf
    split at hl
    case h_2 => cases hl
    rename_i g l e1 e2
    cases hl
    simp only [evalO] at he
    split at he
    case h_3 => cases he
    · rename_i g1 first caps l1 e3 e4
      cases he
      have rf := hop f (by unfold Call.operands; rw [hf]; simp) _ _ e1 e3
      have rl := envOk_list (ρ := ρ) hmem e2 e4
      cases hv : env f <;> rw [hv] at rf <;> cases rf
      rename_i a' b' r1 r2
      refine ⟨a' ++ c.args.map env ++ b', ?_, ?_, rfl⟩
      · simp only [resolve, hf, hv, Sem.run_bind, Deferred.ofValue, Sem.run_pure, Result.andThen_ok, invoke]
      · simp only [Array.toList_append, Array.toList_map]
        exact RelL.append (RelL.append r1 rl) r2
    · rename_i b l1 e3 e4
      cases he
      have rf := hop f (by unfold Call.operands; rw [hf]; simp) _ _ e1 e3
      have rl := envOk_list (ρ := ρ) hmem e2 e4
      cases hv : env f <;> rw [hv] at rf <;> cases rf
      rename_i l hl
      refine ⟨c.args.map env, l, hl, ?_, ?_, rfl⟩
      · simp only [resolve, hf, hv, Sem.run_bind, Deferred.ofValue, Sem.run_pure, Result.andThen_ok, invoke, Array.empty_append]
      · simp only [Array.toList_map]
        exact rl
  · cases hl
  · -- a builtin
    rename_i b hb
    obtain ⟨cn, hres⟩ : ∃ cn, (do let d ← resolve env c ty; invoke d.target d.args : Sem Next) = (builtin b c.argTypes ty cn (c.args.map env)) := ⟨_, by simp only [resolve, hb]; rfl⟩
    rw [hres]
    split at hl
    · rename_i x0 t ha ht
      have ha' : c.args = #[x0] := by rw [← Array.toList_inj]; exact ha
      have := len_ok (env := env) hl H he (hmem x0 (by rw [ha]; simp)) ht ty
      rw [ha']
      simp only [List.map_toArray, List.map_cons, List.map_nil, builtin]
      exact this.op
    · rename_i x0 t ha ht
      have ha' : c.args = #[x0] := by rw [← Array.toList_inj]; exact ha
      have := cap_ok (env := env) hl H he (hmem x0 (by rw [ha]; simp)) ht ty
      rw [ha']
      simp only [List.map_toArray, List.map_cons, List.map_nil, builtin]
      exact this.op
    · rename_i x0 y0 t u ha ht hu
      have ha' : c.args = #[x0, y0] := by rw [← Array.toList_inj]; exact ha
      have := appendB_ok (env := env) hl H he (hmem x0 (by rw [ha]; simp)) (hmem y0 (by rw [ha]; simp)) ht hu ty
      rw [ha']
      simp only [List.map_toArray, List.map_cons, List.map_nil, builtin]
      exact this.op
    · rename_i x0 y0 t ha ht
      have ha' : c.args = #[x0, y0] := by rw [← Array.toList_inj]; exact ha
      have := copyB_ok (env := env) hl H he (hmem x0 (by rw [ha]; simp)) (hmem y0 (by rw [ha]; simp)) ht ty
      rw [ha']
      simp only [List.map_toArray, List.map_cons, List.map_nil, builtin]
      exact this.op
    · rename_i x0 y0 t ha ht
      have ha' : c.args = #[x0, y0] := by rw [← Array.toList_inj]; exact ha
      have := del_ok (P := P) (env := env) hl H he (hmem x0 (by rw [ha]; simp)) (hmem y0 (by rw [ha]; simp)) ht ty
      rw [ha']
      simp only [List.map_toArray, List.map_cons, List.map_nil, builtin]
      exact this.op
    · rename_i x0 t ha ht
      have ha' : c.args = #[x0] := by rw [← Array.toList_inj]; exact ha
      have := clear_ok (P := P) (env := env) hl H he (hmem x0 (by rw [ha]; simp)) ht ty
      rw [ha']
      simp only [List.map_toArray, List.map_cons, List.map_nil, builtin]
      exact this.op
    · rename_i x0 y0 ha
      have ha' : c.args = #[x0, y0] := by rw [← Array.toList_inj]; exact ha
      have := mm_ok (P := P) (env := env) hl H he (hmem x0 (by rw [ha]; simp)) (hmem y0 (by rw [ha]; simp)) c.argTypes ty
      simp only [if_true] at this
      rw [ha']
      simp only [List.map_toArray, List.map_cons, List.map_nil, builtin]
      exact this.op
    · rename_i x0 y0 ha
      have ha' : c.args = #[x0, y0] := by rw [← Array.toList_inj]; exact ha
      have := mm_ok (P := P) (env := env) hl H he (hmem x0 (by rw [ha]; simp)) (hmem y0 (by rw [ha]; simp)) c.argTypes ty
      simp only [Bool.false_eq_true, if_false] at this
      rw [ha']
      simp only [List.map_toArray, List.map_cons, List.map_nil, builtin]
      exact this.op
    · cases hl


/-! ### A walk over a map -/
theorem entA_ok (st : Nat) : ∀ (es : List MapEntry) (cells : List AV), RelL ρ cells (entsL es) → ∀ {q : AV × AV}, entA st cells (es.map (·.born)) = some q → ∃ e, es.find? (fun e => e.born == st) = some e ∧ Rel ρ q.1 e.key ∧ Rel ρ q.2 e.val
  | [], cells, hr, q, he => by simp only [entsL] at hr; cases hr; simp [entA] at he
  | e :: es, cells, hr, q, he => by
    simp only [entsL] at hr
    cases hr with
    | cons a _ cells1 _ ha h1 =>
    cases h1 with
    | cons b _ l _ hb h2 =>
    simp only [List.map_cons, entA] at he
    split at he
    · rename_i hst
      cases he
      exact ⟨e, by simp [hst], ha, hb⟩
    · rename_i hst
      obtain ⟨e', q1, q2⟩ := entA_ok st es l h2 he
      exact ⟨e', by simp [hst, q1], q2⟩

theorem rangeMap_ok (H : HRel ρ h w) {t kt et : TypeId} (hu : P.underlying t = some (.map kt et)) {m : Option Nat} {mv : Value} (rm : Rel ρ (.map m) mv) {clk : Nat} (hm : ∀ b, m = some b → ∃ cells bs, h.get b = some ⟨cells, .map clk bs⟩) (h0 : m = none → clk = 0) :
    ∃ v' w' ρ', (Instr.range t mv).run P w = .ok v' w' ∧ Rel ρ' (.ptr (some (h.next, 0))) v' ∧ HRel ρ' (h.new ⟨[], .iter m clk [] clk⟩) w' ∧ Step ρ h w ρ' (h.new ⟨[], .iter m clk [] clk⟩) w' := by
  obtain ⟨o, ho, hrun⟩ : ∃ o : Option Nat, ((m = none → o = none) ∧ ∀ b, m = some b → ∃ lm, ρ b = some lm ∧ o = some lm.row) ∧
      (Instr.range t mv).run P w = .ok (.pointer (some ⟨w.heap.size, 0, none⟩)) (w.alloc (.mapIter o clk #[] clk)) := by
    cases rm with
    | mapNil =>
      have := h0 rfl; subst this
      refine ⟨none, ⟨fun _ => rfl, fun b e => (by cases e)⟩, ?_⟩
      simp [Instr.range, run_underlying hu, run_newObj_alloc]
    | map b l hl =>
      obtain ⟨cells, bs, hb⟩ := hm b rfl
      obtain ⟨es, q1, _⟩ := (H.blk b _ l hb hl).2.1 _ _ rfl
      refine ⟨some l.row, ⟨fun e => (by cases e), fun b' e => (by cases e; exact ⟨l, hl, rfl⟩)⟩, ?_⟩
      simp [Instr.range, run_underlying hu, Go.MapKept.run_getObj_map q1, run_newObj_alloc]
  obtain ⟨H1, S1⟩ := H.allocO ⟨[], .iter m clk [] clk⟩ (.mapIter o clk #[] clk) 0 fun ρ' hle => by
    refine ⟨fun hh => absurd rfl hh, fun _ _ hh => (by cases hh), fun m' s sn la hh => ?_, fun r hh => (by cases hh)⟩
    cases hh
    exact ⟨o, heap_alloc_new w _, rfl, ho.1, fun b e => let ⟨lm, q1, q2⟩ := ho.2 b e; ⟨lm, hle _ _ q1, q2⟩⟩
  exact ⟨_, _, _, hrun, .ptr _ _ ⟨w.heap.size, 0, 0⟩ (Ren.add_same _ _ _), H1, S1⟩

theorem filter_borns (seen : List Nat) (es : List MapEntry) : (es.filter fun e => !seen.contains e.born).map (·.born) = (es.map (·.born)).filter fun b => !seen.contains b := by
  induction es with
  | nil => rfl
  | cons e es ih =>
    simp only [List.map_cons, List.filter_cons]
    split <;> simp only [List.map_cons, ih]

theorem nextMap_ok (H : HRel ρ h w) {r : Nat} {cs cells : List AV} {b clk since last : Nat} {seen bs : List Nat} (hr : h.get r = some ⟨cs, .iter (some b) since seen last⟩) (hb : h.get b = some ⟨cells, .map clk bs⟩) {iv : Value} (rv : Rel ρ (.ptr (some (r, 0))) iv)
    {v : AV} {sn : Option (List Nat)} (hn : nextA cells clk bs since seen last = some (v, sn)) (ty : TypeId) :
    ∃ v' w', (Instr.next iv false ty).run P w = .ok v' w' ∧ Rel ρ v v' ∧ HRel ρ (match sn with | some sn => h.put r ⟨[], .iter (some b) since sn clk⟩ | none => h) w' ∧ Step ρ h w ρ (match sn with | some sn => h.put r ⟨[], .iter (some b) since sn clk⟩ | none => h) w' := by
  cases rv with
  | ptr _ _ l hl =>
  obtain ⟨m', k1, k2, _, k4⟩ := (H.blk r _ l hr hl).2.2.1 _ _ _ _ rfl
  obtain ⟨lm, hlm, rfl⟩ := k4 b rfl
  obtain ⟨es, q1, q2, q3⟩ := (H.blk b _ lm hb hlm).2.1 _ _ rfl
  subst q2
  have hg1 : (getObj l.row).run P w = .ok (.mapIter (some lm.row) since seen.toArray last) w := by simp [getObj, Sem.run, k1]
  unfold nextA at hn
  split at hn
  · cases hn
  rename_i hcond
  have htest : (!seen.toArray.isEmpty && !es.isEmpty && es.all fun e => decide (e.born ≥ last)) = false := by
    cases hh : (!seen.toArray.isEmpty && !es.isEmpty && es.all fun e => decide (e.born ≥ last)) with
    | false => rfl
    | true =>
      exfalso
      simp only [Bool.and_eq_true, Bool.not_eq_true'] at hh
      apply hcond
      refine ⟨?_, ?_, ?_⟩
      · rintro rfl; simp at hh
      · intro e
        rw [List.map_eq_nil_iff] at e
        have : es = #[] := by rw [← Array.toList_inj]; simpa using e
        rw [this] at hh; simp at hh
      · rw [List.all_map, ← Array.all_toList] at *
        exact hh.2
  have hleft : (es.filter fun e => !seen.toArray.contains e.born).toList = es.toList.filter fun e => !seen.contains e.born := by simp
  have hfb := filter_borns seen es.toList
  simp only [Instr.next]
  rw [k2, Nat.zero_add]
  simp only [Sem.run_bind, hg1, Result.andThen_ok, Go.MapKept.run_getObj_map q1, htest, Bool.false_eq_true, if_false]
  generalize hL : es.filter (fun e => !seen.toArray.contains e.born) = L at *
  split at hn
  · rename_i hnil
    cases hn
    rw [hnil, List.map_eq_nil_iff, ← hleft] at hfb
    have : L = #[] := by rw [← Array.toList_inj]; simpa using hfb
    subst this
    refine ⟨.tuple #[.bool false], w, ?_, .tuple _ _ (.cons _ _ _ _ (.bool _) .nil), H, Step.refl _ _ _⟩
    simp [choose, Sem.run, Question.forced]
  · rename_i b1 hone
    split at hn
    case isFalse => cases hn
    rename_i hlt
    rw [Option.map_eq_some_iff] at hn
    obtain ⟨q, hq, hn⟩ := hn
    cases hn
    obtain ⟨e, f1, f2, f3⟩ := entA_ok b1 es.toList cells q3 hq
    rw [hone] at hfb
    obtain ⟨e0, he0, he0b⟩ : ∃ e0, es.toList.filter (fun e => !seen.contains e.born) = [e0] ∧ e0.born = b1 := by
      match hf : es.toList.filter (fun e => !seen.contains e.born) with
      | [] => rw [hf] at hfb; cases hfb
      | [x] => rw [hf] at hfb; exact ⟨x, hf, by simpa using hfb⟩
      | x :: y :: l => rw [hf] at hfb; simp at hfb
    have heb : e.born = b1 := by simpa using List.find?_some f1
    have hmem : e ∈ es.toList.filter (fun e => !seen.contains e.born) := by
      rw [List.mem_filter]
      refine ⟨List.mem_of_find?_eq_some f1, ?_⟩
      have : e0 ∈ es.toList.filter (fun e => !seen.contains e.born) := by rw [he0]; simp
      have := (List.mem_filter.1 this).2
      rw [heb, ← he0b]; exact this
    obtain rfl : e = e0 := by rw [he0] at hmem; simpa using hmem
    have hLe : L = #[e] := by rw [← Array.toList_inj, hleft, he0]
    subst hLe
    have hput := H.setRow hr (by simp) hl (k' := ⟨[], .iter (some b) since (seen ++ [b1]) clk⟩) (by simp) (.mapIter (some lm.row) since (seen.toArray.push e.born) clk) (by
      refine ⟨fun hh => absurd rfl hh, fun _ _ hh => (by cases hh), fun m' s sn la hh => ?_, fun r hh => (by cases hh)⟩
      cases hh
      refine ⟨some lm.row, ?_, k2, fun e => (by cases e), fun b' e => (by cases e; exact ⟨lm, hlm, rfl⟩)⟩
      rw [Array.getElem?_setIfInBounds, if_pos rfl, if_pos (H.dom r l hl).2]
      rw [heb]; simp)
    refine ⟨.tuple #[.bool true, e.key, e.val], _, ?_, .tuple _ _ (.cons _ _ _ _ (.bool _) (.cons _ _ _ _ f2 (.cons _ _ _ _ f3 .nil))), hput.1, hput.2⟩
    have hs : ∀ o', (setObj l.row o').run P w = .ok () { w with heap := w.heap.setIfInBounds l.row o' } := fun o' => by simp [setObj, Sem.run, k1]
    have hb2 : e.born < since := by rw [heb]; exact hlt
    have hb3 : ¬ since ≤ e.born := by omega
    simp [choose, Sem.run, Question.forced, hb2, hb3, hs]
  · cases hn

theorem entryMap_ok (H : HRel ρ h w) {r : Nat} {cs cells : List AV} {b clk since : Nat} {seen bs : List Nat} (hr : h.get r = some ⟨cs, .iter (some b) since seen clk⟩) (hb : h.get b = some ⟨cells, .map clk bs⟩) {iv : Value} (rv : Rel ρ (.ptr (some (r, 0))) iv)
    {st : Nat} (hst : seen.getLast? = some st) {q : AV × AV} (hn : entA st cells bs = some q) :
    ∃ v', (Instr.entry iv).run P w = .ok v' w ∧ Rel ρ (.tuple [q.1, q.2]) v' := by
  cases rv with
  | ptr _ _ l hl =>
  obtain ⟨m', k1, k2, _, k4⟩ := (H.blk r _ l hr hl).2.2.1 _ _ _ _ rfl
  obtain ⟨lm, hlm, rfl⟩ := k4 b rfl
  obtain ⟨es, q1, q2, q3⟩ := (H.blk b _ lm hb hlm).2.1 _ _ rfl
  subst q2
  obtain ⟨e, f1, f2, f3⟩ := entA_ok st es.toList cells q3 hn
  have hg1 : (getObj l.row).run P w = .ok (.mapIter (some lm.row) since seen.toArray clk) w := by simp [getObj, Sem.run, k1]
  refine ⟨.tuple #[e.key, e.val], ?_, .tuple _ _ (.cons _ _ _ _ f2 (.cons _ _ _ _ f3 .nil))⟩
  have hback : seen.toArray.back? = some st := by simpa using hst
  have hfind : es.find? (fun x => x.born == st) = some e := by rw [← Array.find?_toList]; exact f1
  simp only [Instr.entry]
  rw [k2, Nat.zero_add]
  simp only [Sem.run_bind, hg1, Result.andThen_ok, hback, Go.MapKept.run_getObj_map q1, bne_self_eq_false, Bool.false_eq_true, if_false, hfind, Sem.run_pure]

theorem makeMap_ok (H : HRel ρ h w) : HRel (ρ.add h.next ⟨w.heap.size, 0, 0⟩) (h.new ⟨[], .map 0 []⟩) (w.alloc (.map #[] 0)) ∧ Step ρ h w (ρ.add h.next ⟨w.heap.size, 0, 0⟩) (h.new ⟨[], .map 0 []⟩) (w.alloc (.map #[] 0)) :=
  H.allocO ⟨[], .map 0 []⟩ (.map #[] 0) 0 fun ρ' hle => ⟨fun hh => absurd rfl hh, fun c bs hh => (by cases hh; exact ⟨#[], heap_alloc_new w _, rfl, .nil⟩), fun _ _ _ _ hh => (by cases hh), fun r hh => (by cases hh)⟩

theorem zeroV_spec {t : TypeId} {a : AV} (h : zeroV P t = some a) (w : World) : ∃ z, (zeroValue t).run P w = .ok z w ∧ ∀ ρ, Rel ρ a z := by
  unfold zeroV at h
  split at h
  · rename_i i hi
    split at h
    · rename_i z hz
      exact ⟨z, run_zero hi hz w, fun ρ => ofValue_rel h⟩
    · cases h
  · cases h

end
end Go.Lite
