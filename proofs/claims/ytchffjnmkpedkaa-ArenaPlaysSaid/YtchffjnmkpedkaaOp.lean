/-
  Acts as arguments: a slice of structs, opened. Own work of this session.
-/
import Derived.Test.YtchffjnmkpedkaaAp
import Derived.Test.YtchffjnmkpedkaaLw
import Derived.Test.YtchffjnmkpedkaaWe
import Derived.DataReads
set_option linter.unusedSectionVars false
set_option linter.unusedSimpArgs false
set_option linter.unusedVariables false
namespace Go.Proofs.Ytchffjnmkpedkaa
set_option linter.unusedSectionVars false
set_option linter.unusedSimpArgs false
open Go.Lite Go.RowKit Go.Lite.Arena Go.ChangeShapes Go.WideShapes
set_option linter.unusedVariables false
set_option maxRecDepth 100000
section
variable {H : Type} {enc : TypeId × Value → H} {P : Program} {w : World} {b0 : Nat} {sp : Nat → Bool} {hd : Bool} {fuel : Nat} {t : TypeId} {cs : List Value} {d : DataW H × List MemPlace}

theorem trod_int {k : IntKind} (ht : P.underlying t = some (.int k)) (h : DataW.trod enc P w b0 sp hd fuel t cs = some d) : ∃ n, cs = [.int k n] := by
  cases fuel with
  | zero => simp [DataW.trod] at h
  | succ m =>
    unfold DataW.trod at h
    rw [ht] at h
    split at h <;> simp_all

theorem trod_bool (ht : P.underlying t = some .bool) (h : DataW.trod enc P w b0 sp hd fuel t cs = some d) : ∃ b, cs = [.bool b] := by
  cases fuel with
  | zero => simp [DataW.trod] at h
  | succ m =>
    unfold DataW.trod at h
    rw [ht] at h
    split at h <;> simp_all

theorem some_of_mapM {α β : Type} {f : α → Option β} {l : List α} {ys : List β} (h : l.mapM f = some ys) {i : Nat} {x : α} (hx : l[i]? = some x) : ∃ y, f x = some y := by
  have h1 := mapM_some_get h i x hx
  have h2 := mapM_some_length h
  have hi : i < l.length := by
    rcases Nat.lt_or_ge i l.length with hh | hh
    · exact hh
    · rw [List.getElem?_eq_none hh] at hx; cases hx
  rw [List.getElem?_eq_getElem (by omega)] at h1
  exact ⟨_, h1⟩

theorem trod_ints8 {e : TypeId} {k : IntKind} (ht : P.underlying t = some (.array 8 e)) (he : P.underlying e = some (.int k)) (hc : P.cellsOf t = 8) (hc1 : P.cellsOf e = 1) (h : DataW.trod enc P w b0 sp hd fuel t cs = some d) : ∃ l : List Int, l.length = 8 ∧ cs = l.map (Value.int k) := by
  cases fuel with
  | zero => simp [DataW.trod] at h
  | succ m =>
    unfold DataW.trod at h
    rw [ht] at h
    simp only at h
    split at h
    · rename_i hl
      rw [hc] at hl
      rw [Option.map_eq_some_iff] at h
      obtain ⟨xs, hm, _⟩ := h
      have key : ∀ i, i < 8 → ∃ n, (cs.drop (i * 1)).take 1 = [.int k n] := by
        intro i hi
        obtain ⟨y, hy⟩ := some_of_mapM hm (i := i) (x := i) (by rw [List.getElem?_range hi])
        rw [hc1] at hy
        exact trod_int he hy
      obtain ⟨n0, e0⟩ := key 0 (by omega)
      obtain ⟨n1, e1⟩ := key 1 (by omega)
      obtain ⟨n2, e2⟩ := key 2 (by omega)
      obtain ⟨n3, e3⟩ := key 3 (by omega)
      obtain ⟨n4, e4⟩ := key 4 (by omega)
      obtain ⟨n5, e5⟩ := key 5 (by omega)
      obtain ⟨n6, e6⟩ := key 6 (by omega)
      obtain ⟨n7, e7⟩ := key 7 (by omega)
      refine ⟨[n0, n1, n2, n3, n4, n5, n6, n7], rfl, ?_⟩
      match cs, hl with
      | [_, _, _, _, _, _, _, _], _ => simp_all
    · cases h

theorem trod_act (h : DataW.trod enc Try.prog w b0 sp hd fuel 30 cs = some d) : ∃ x : ActV, ∀ ρ, RelL ρ (actC x) cs := by
  have c30 : Try.prog.cellsOf 30 = 12 := by kernel_rfl
  have c28 : Try.prog.cellsOf 28 = 8 := by kernel_rfl
  have c3 : Try.prog.cellsOf 3 = 1 := by kernel_rfl
  have c2 : Try.prog.cellsOf 2 = 1 := by kernel_rfl
  have c4 : Try.prog.cellsOf 4 = 1 := by kernel_rfl
  cases fuel with
  | zero => simp [DataW.trod] at h
  | succ m =>
    unfold DataW.trod at h
    rw [Try.underlying30] at h
    simp only at h
    split at h
    · rename_i hl
      rw [c30] at hl
      rw [Option.map_eq_some_iff] at h
      obtain ⟨xs, hm, _⟩ := h
      obtain ⟨y0, f0⟩ := some_of_mapM hm (i := 0) rfl
      obtain ⟨y1, f1⟩ := some_of_mapM hm (i := 1) rfl
      obtain ⟨y2, f2⟩ := some_of_mapM hm (i := 2) rfl
      obtain ⟨y3, f3⟩ := some_of_mapM hm (i := 3) rfl
      obtain ⟨y4, f4⟩ := some_of_mapM hm (i := 4) rfl
      simp only [c3, c4, c28, c2] at f0 f1 f2 f3 f4
      obtain ⟨kind, e0⟩ := trod_int Try.underlying3 f0
      obtain ⟨n, e1⟩ := trod_int Try.underlying3 f1
      obtain ⟨leaf, e2⟩ := trod_bool Try.underlying4 f2
      obtain ⟨kids, hk, e3⟩ := trod_ints8 Try.underlying28 Try.underlying3 c28 c3 f3
      obtain ⟨val, e4⟩ := trod_int Try.underlying2 f4
      refine ⟨⟨kind, n, leaf, kids, val, hk⟩, fun ρ => ?_⟩
      match kids, hk, cs, hl with
      | [_, _, _, _, _, _, _, _], _, [_, _, _, _, _, _, _, _, _, _, _, _], _ =>
        simp only [List.drop_zero, List.drop_succ_cons, List.take_succ_cons, List.take_zero, List.map_cons, List.map_nil, List.cons.injEq, and_true] at e0 e1 e2 e3 e4
        obtain ⟨r0, r1, r2, r3, r4, r5, r6, r7⟩ := e3
        subst e0 e1 e2 r0 r1 r2 r3 r4 r5 r6 r7 e4
        exact .cons _ _ _ _ (.int _ _) (.cons _ _ _ _ (.int _ _) (.cons _ _ _ _ (.bool _) (.cons _ _ _ _ (.int _ _) (.cons _ _ _ _ (.int _ _) (.cons _ _ _ _ (.int _ _) (.cons _ _ _ _ (.int _ _) (.cons _ _ _ _ (.int _ _) (.cons _ _ _ _ (.int _ _) (.cons _ _ _ _ (.int _ _) (.cons _ _ _ _ (.int _ _) (.cons _ _ _ _ (.int _ _) .nil)))))))))))
    · cases h

theorem choose_list {α : Type} {Q : Nat → α → Prop} : ∀ n : Nat, (∀ i, i < n → ∃ x, Q i x) → ∃ l : List α, l.length = n ∧ ∀ i x, l[i]? = some x → Q i x
  | 0, _ => ⟨[], rfl, fun i x hx => by simp at hx⟩
  | n + 1, h => by
    obtain ⟨l, h1, h2⟩ := choose_list n fun i hi => h i (by omega)
    obtain ⟨x, hx⟩ := h n (by omega)
    refine ⟨l ++ [x], by simp [h1], fun i y hy => ?_⟩
    rw [List.getElem?_append] at hy
    split at hy
    · exact h2 i y hy
    · rename_i hi
      have : i = n := by
        rcases Nat.lt_or_ge (i - l.length) 1 with hh | hh
        · omega
        · rw [List.getElem?_eq_none (by simpa using hh)] at hy; cases hy
      subst this
      rw [h1, Nat.sub_self] at hy
      simp at hy
      subst hy
      exact hx

theorem relL_get {ρ : Ren} : ∀ {l : List AV} {m : List Value}, RelL ρ l m → ∀ (i : Nat) v, l[i]? = some v → ∃ u, m[i]? = some u ∧ Rel ρ v u
  | _, _, .nil, i, v, h => by simp at h
  | _, _, .cons a u l m r rs, 0, v, h => by simp at h; subst h; exact ⟨u, by simp, r⟩
  | _, _, .cons a u l m r rs, i + 1, v, h => by
    obtain ⟨x, h1, h2⟩ := relL_get rs i v (by simpa using h)
    exact ⟨x, by simpa using h1, h2⟩

/-- A slice of acts, as the evaluator has it. -/
theorem open_acts {v : Value} {r : Reach} {bb : Nat} (hval : Value.okWide Try.prog w r bb 22 v) (h : DataW.trod enc Try.prog w 0 (fun _ => true) true fuel 22 v.cells.toList = some d) :
    ∃ (acts : List ActV) (ρ : Ren) (h0 : Hp) (base : Option (Nat × Nat)) (cap : Cap), HRel ρ h0 w ∧ (∀ r, ¬ Owned ρ h0 r) ∧ Rel ρ (.slice base acts.length cap) v ∧ (acts ≠ [] → base = some (0, 0) ∧ h0.get 0 = some ⟨acts.flatMap actC, .ro⟩ ∧ 0 < h0.next) := by
  have c30 : Try.prog.cellsOf 30 = 12 := by kernel_rfl
  simp only [Value.okWide, Try.underlying22, Cell.okWide] at hval
  cases v <;> simp [Cell.ok, Try.underlying22] at hval
  rename_i a len cap
  cases a with
  | none =>
    obtain ⟨rfl, rfl⟩ : len = 0 ∧ cap = 0 := by
      cases len <;> cases cap <;> simp_all
    exact ⟨[], Ren.none, Hp.empty, none, .known 0, HRel.empty w, by rintro r ⟨b, k, l, e, _⟩; simp [Hp.empty, Hp.get] at e, .sliceNil, fun hh => absurd rfl hh⟩
  | some a =>
    obtain ⟨hle, _, _, hspot, row, cells, hsh, _⟩ := hval
    obtain ⟨c, z, hrow⟩ : ∃ c z, w.heap[a.block]? = some (.cells c row z) := by
      unfold World.shape? at hsh
      split at hsh
      · rename_i c e z heq
        simp at hsh
        exact ⟨c, z, by rw [heq, hsh.1]⟩
      · cases hsh
    have hlt : a.block < w.heap.size := by
      rcases Nat.lt_or_ge a.block w.heap.size with hh | hh
      · exact hh
      · rw [Array.getElem?_eq_none hh] at hrow; cases hrow
    have addr : ∀ n, a.add n = ⟨a.block, a.off + n, none⟩ := by
      intro n
      obtain ⟨ab, ao, asp⟩ := a
      simp only at hspot
      subst hspot
      unfold Addr.add
      split
      · rename_i e; subst e; rfl
      · rfl
    -- each act
    have each : ∀ i, i < len → ∃ x : ActV, ∀ ρ j u, (actC x)[j]? = some u → ∃ y, c[a.off + (i * 12 + j)]? = some y ∧ Rel ρ u y := by
      intro i hi
      cases fuel with
      | zero => simp [DataW.trod] at h
      | succ m =>
        unfold DataW.trod at h
        rw [Try.underlying22] at h
        simp only [Value.cells] at h
        split at h
        · rw [Option.bind_eq_some_iff] at h
          obtain ⟨xs, hm, _⟩ := h
          obtain ⟨y, hy⟩ := some_of_mapM hm (i := i) (x := i) (by rw [List.getElem?_range hi])
          rw [Option.bind_eq_some_iff] at hy
          obtain ⟨cs, hcs, hy⟩ := hy
          rw [c30] at hcs
          obtain ⟨_, hl, hc⟩ := World.cells?_some hcs
          obtain ⟨x, hx⟩ := trod_act hy
          refine ⟨x, fun ρ j u hj => ?_⟩
          obtain ⟨y, hy1, hy2⟩ := relL_get (hx ρ) j u hj
          have hj12 : j < 12 := by
            rcases Nat.lt_or_ge j 12 with hh | hh
            · exact hh
            · rw [List.getElem?_eq_none (by rw [actC_len]; exact hh)] at hj; cases hj
          have := hc j hj12
          rw [hy1, addr] at this
          unfold Addr.add at this
          have e2 : w.cell? ⟨a.block, a.off + i * 12 + j, none⟩ = some y := by
            split at this
            · rename_i e; subst e; exact this
            · exact this
          unfold World.cell? at e2
          simp only [hrow] at e2
          refine ⟨y, ?_, hy2⟩
          rw [← Nat.add_assoc]
          simpa using e2
        · cases h
    obtain ⟨acts, hlen, hacts⟩ := choose_list len each
    refine ⟨acts, fun b => if b = 0 then some ⟨a.block, a.off, c.size⟩ else none, Hp.empty.new ⟨acts.flatMap actC, .ro⟩, some (0, 0), .known cap, ⟨?_, ?_, ?_⟩, ?_, ?_, fun _ => ⟨rfl, rfl, Nat.zero_lt_succ _⟩⟩
    · intro b k l hb hl
      split at hl
      · rename_i e; subst e
        cases hl
        have hk : k = ⟨acts.flatMap actC, .ro⟩ := by
          have : (Hp.empty.new ⟨acts.flatMap actC, .ro⟩).get 0 = some ⟨acts.flatMap actC, .ro⟩ := rfl
          rw [this] at hb; exact (Option.some.inj hb).symm
        subst hk
        refine BlkRel.flat rfl ⟨c, row, z, hrow, rfl, fun hh => absurd rfl hh, fun i v hv => ?_⟩
        have hd : i = i / 12 * 12 + i % 12 := by omega
        rw [hd, flat_get actC_len acts (i / 12) (i % 12) (by omega)] at hv
        rw [Option.bind_eq_some_iff] at hv
        obtain ⟨x, hx, hv⟩ := hv
        obtain ⟨y, hy1, hy2⟩ := hacts _ _ hx _ _ _ hv
        exact ⟨y, by rw [← hd] at hy1; exact hy1, hy2⟩
      · cases hl
    · intro b b' k k' l l' hb hb' hk hl hl' he
      split at hl
      · split at hl'
        · rename_i e e'; rw [e, e']
        · cases hl'
      · cases hl
    · intro b l hl
      split at hl
      · rename_i e; subst e; cases hl; exact ⟨Nat.zero_lt_succ _, hlt⟩
      · cases hl
    · rintro r ⟨b, k, l, e1, e2, e3, _⟩
      replace e3 : (if b = 0 then some (⟨a.block, a.off, c.size⟩ : Lite.Loc) else none) = some l := e3
      split at e3
      · rename_i e; subst e
        have : (Hp.empty.new ⟨acts.flatMap actC, .ro⟩).get 0 = some ⟨acts.flatMap actC, .ro⟩ := rfl
        rw [this] at e1
        cases e1
        exact e2 rfl
      · cases e3
    · obtain ⟨ab, ao, asp⟩ := a
      simp only at hspot
      subst hspot
      rw [hlen]
      exact .slice 0 0 len cap ao ⟨ab, ao, c.size⟩ rfl (.inr rfl) hle

theorem open_act {v : Value} {r : Reach} {bb : Nat} (hval : Value.okWide Try.prog w r bb 30 v) (h : DataW.trod enc Try.prog w 0 (fun _ => true) true fuel 30 v.cells.toList = some d) : ∃ x : ActV, ∀ ρ, Rel ρ (.agg (actC x)) v := by
  simp only [Value.okWide, Try.underlying30] at hval
  obtain ⟨cs, rfl, _⟩ := hval
  obtain ⟨x, hx⟩ := trod_act h
  exact ⟨x, fun ρ => .agg _ _ (hx ρ)⟩
end

/-- A law whose run begins with what it may read. -/
theorem law_walk2 {P : Program} {F : FuncId → Option Def} (hF : ∀ f d, F f = some d → DefOk P f d) (hm : P.follows .mixedOrders = true) (hL : ∀ nt c s, Ctx.low nt c s ↔ lowerCode P nt c = some s) {fuel : Nat} {f : FuncId} (hf : Enters P f) {args : List AV} {args' : Array Value} {ρ : Ren} {h0 h' : Hp} {w : World}
    (H : HRel ρ h0 w) (hno : ∀ r, ¬ Owned ρ h0 r) (hr : RelL ρ args args'.toList) (he : evalFn F fuel f args h0 = some (.bool true, h')) : Calls P f args' w fun e w' => e = .returned (.bool true) ∧ Below w.heap.size w w' := by
  refine (calls_of_eval (evalT_ok hm hL hF fuel) hf he H hr).mono ?_
  rintro e w' ⟨u, ρ', rfl, ru, _, st⟩
  cases ru
  exact ⟨rfl, st.below hno⟩


/-- .. and that is walked by what is owned. -/
theorem law_walk3 {P : Program} {F : FuncId → Option Def} (hF : ∀ f d, F f = some d → DefOk P f d) (hm : P.follows .mixedOrders = true) (hL : ∀ nt c s, Ctx.low nt c s ↔ lowerCode P nt c = some s) {f : FuncId} (hf : Enters P f) {args : List AV} {args' : Array Value} {ρ : Ren} {h0 : Hp} {w : World} {A : Sep.Per}
    (H : HRel ρ h0 w) (hno : ∀ r, ¬ Owned ρ h0 r) (hr : RelL ρ args args'.toList) (hA : ∀ p ∈ A, h0.get p.1 = some p.2 ∧ p.1 < h0.next) (hd : Sep.Does F f args A [] fun v _ _ => v = .bool true) : Calls P f args' w fun e w' => e = .returned (.bool true) ∧ Below w.heap.size w w' := by
  obtain ⟨v, h', A', Hs', D', ⟨N, e⟩, _, _, rfl⟩ := hd h0 [] ⟨.nil, by simp, by simp, fun p hp => ⟨(hA p hp).1, by simp, (hA p hp).2⟩⟩
  exact law_walk2 hF hm hL hf H hno hr (e N (Nat.le_refl _))

end Go.Proofs.Ytchffjnmkpedkaa
