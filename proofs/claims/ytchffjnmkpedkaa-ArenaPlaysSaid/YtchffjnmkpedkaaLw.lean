/-
  LITE, part w: a law's row, shut: whatever the arguments are, they read as they did. Own work of this session.
-/
import Derived.Test.YtchffjnmkpedkaaLv
import Derived.WalkKit
import Derived.ProofKit
import Derived.OpenShut
import Derived.WideKeyArgs
set_option linter.unusedSectionVars false
set_option linter.unusedSimpArgs false
set_option linter.unusedVariables false
namespace Go.Lite
set_option linter.unusedSectionVars false
set_option linter.unusedSimpArgs false
open Go.RowKit Go.ChangeShapes Go.WideShapes Go.ChangeAt
variable [Ctx]
set_option linter.unusedVariables false

section
variable {H : Type} {enc : TypeId × Value → H} {P : Program}

/-- Are all of them types whose values the book can read? -/
def typesOk (P : Program) : List TypeId → Bool
  | [] => true
  | t :: l => P.readableRec t && decide (t < P.types.size) && typesOk P l

theorem trodAll_stays (hl : laidOutB P = true) {W W' : World} (hb : Below W.heap.size W W') {sp : Nat → Bool} : ∀ {ts : List TypeId} {vs : List Value} {ds : List (DataW H)} {ps : List MemPlace}, typesOk P ts = true →
    DataW.TrodAll enc P W 0 (fun _ => true) true ts vs ds ps → (∀ x ∈ ps, x.block < W.heap.size) → (∀ x ∈ ps, sp x.block = true) → DataW.TrodAll enc P W' 0 sp true ts vs ds ps
  | [], [], [], ps, _, h, _, _ => h
  | t :: ts, v :: vs, d :: ds, ps, ht, h, hlt, hsp => by
    simp only [typesOk, Bool.and_eq_true, decide_eq_true_eq] at ht
    obtain ⟨p, q, h1, h2, rfl⟩ := h
    exact ⟨p, q, WideElems.Trod_stays hl ht.1.1 ht.1.2 h1 (fun x hx => hb.same (hlt x (List.mem_append_left _ hx))) (fun x hx => hsp x (List.mem_append_left _ hx)),
      trodAll_stays hl hb ht.2 h2 (fun x hx => hlt x (List.mem_append_right _ hx)) (fun x hx => hsp x (List.mem_append_right _ hx)), rfl⟩
  | [], _ :: _, _, _, _, h, _, _ => h.elim
  | [], [], _ :: _, _, _, h, _, _ => h.elim
  | _ :: _, [], _, _, _, h, _, _ => h.elim
  | _ :: _, _ :: _, [], _, _, h, _, _ => h.elim

/-- A law that says true, whose arguments read as they did. -/
theorem post_law {f : Func} {s : ChangeSpec} {apart fresh handsOn again : Bool} {W W' : World} {args : Array Value} {ds : List (DataW H)} {p : List MemPlace} {tb : TypeId} (hl : laidOutB P = true) (ht : typesOk P f.params.toList = true)
    (hW : DataW.Whole enc P f.params.toList s.vars apart W args.toList ds [] p) (hA : DataW.TrodAll enc P W 0 (fun _ => true) true f.params.toList args.toList ds p) (hv : s.vars = [])
    (hs : s.fn H (ds ++ []) = { results := [.lit (.bool true)], args := ds }) (hr : f.resultTypes = #[tb]) (hbool : P.underlying tb = some .bool) (hb : Below W.heap.size W W') :
    s.post enc P f apart fresh handsOn again W args (.bool true) W' := by
  have hlt := hW.lt
  refine post_of_below (pa := p) (pv := []) hW ?_ ?_ ?_ (by simp) hb ?_
  · intro b sp hd
    rw [hr, hs]
    exact trodAll_cons_mk (shut_bool hbool _) trodAll_mk0
  · intro sp hsp
    rw [hs]
    exact trodAll_stays hl hb ht hA hlt hsp
  · intro sp hsp
    rw [hs, hv]; rfl
  · intro j t r h1 h2
    rw [hr] at h1 h2
    cases j with
    | zero =>
      simp only [List.getElem?_toArray, List.getElem?_cons_zero, Option.some.injEq] at h1
      subst h1
      simp [Value.resultList] at h2
      subst h2
      exact okWide_bool_mk hbool _
    | succ j => simp at h1

/-! ### What an argument is -/
theorem open_str {W : World} {r : Reach} {b0 : Nat} {t : TypeId} {v : Value} (ht : P.underlying t = some .string) (hval : Value.okWide P W r b0 t v) : ∃ s, v = .string s := by
  simp only [Value.okWide, ht, Cell.okWide] at hval
  cases v <;> simp [Cell.ok, ht] at hval
  exact ⟨_, rfl⟩

theorem open_i {W : World} {r : Reach} {b0 : Nat} {t : TypeId} {k : IntKind} {v : Value} (ht : P.underlying t = some (.int k)) (hval : Value.okWide P W r b0 t v) : ∃ n, v = .int k n ∧ k.has n := by
  simp only [Value.okWide, ht, Cell.okWide] at hval
  cases v <;> simp [Cell.ok, ht] at hval
  obtain ⟨rfl, h⟩ := hval
  exact ⟨_, rfl, h⟩

/-- Cells of these kinds. -/
def flatIs : List TypeDesc → List AV → Prop
  | [], [] => True
  | .int k :: l, .int k' n :: m => k' = k ∧ k.has n ∧ flatIs l m
  | .string :: l, .str s :: m => flatIs l m
  | .bool :: l, .bool b :: m => flatIs l m
  | _, _ => False

theorem open_cells {ρ : Ren} {W : World} {r : Reach} {b0 : Nat} : ∀ (ts : List TypeId) (ks : List TypeDesc) (cs : List Value), ts.map P.underlying = ks.map some → (∀ k ∈ ks, k = .bool ∨ k = .string ∨ ∃ i, k = .int i) → cs.length = ts.length →
    (∀ (i : Nat) v, cs[i]? = some v → ∃ u, ts[i]? = some u ∧ Cell.okWide P W r b0 u v) → ∃ avs, RelL ρ avs cs ∧ flatIs ks avs
  | [], [], [], _, _, _, _ => ⟨[], .nil, trivial⟩
  | t :: ts, k :: ks, c :: cs, he, hk, hl, h => by
    simp only [List.map_cons, List.cons.injEq] at he
    obtain ⟨avs, q1, q2⟩ := open_cells (ρ := ρ) ts ks cs he.2 (fun k hk' => hk k (by simp [hk'])) (by simpa using hl) (fun i v hv => by simpa using h (i + 1) v (by simpa using hv))
    obtain ⟨u, hu, hok⟩ := h 0 c (by simp)
    simp only [List.getElem?_cons_zero, Option.some.injEq] at hu; subst hu
    rcases hk k (by simp) with rfl | rfl | ⟨i, rfl⟩
    · simp only [Cell.okWide, he.1] at hok
      cases c <;> simp [Cell.ok, he.1] at hok
      exact ⟨.bool _ :: avs, .cons _ _ _ _ (.bool _) q1, q2⟩
    · simp only [Cell.okWide, he.1] at hok
      cases c <;> simp [Cell.ok, he.1] at hok
      exact ⟨.str _ :: avs, .cons _ _ _ _ (.str _) q1, q2⟩
    · simp only [Cell.okWide, he.1] at hok
      cases c <;> simp [Cell.ok, he.1] at hok
      obtain ⟨rfl, hh⟩ := hok
      exact ⟨.int _ _ :: avs, .cons _ _ _ _ (.int _ _) q1, rfl, hh, q2⟩
  | [], _ :: _, _, he, _, _, _ => by simp at he
  | _ :: _, [], _, he, _, _, _ => by simp at he
  | [], [], _ :: _, _, _, hl, _ => by simp at hl
  | _ :: _, _ :: _, [], _, _, hl, _ => by simp at hl

/-- A struct whose cells are numbers, texts and bools. -/
theorem open_flat {ρ : Ren} {W : World} {r : Reach} {b0 : Nat} {t : TypeId} {v : Value} {fs : Array Field} {ts : List TypeId} {ks : List TypeDesc} (ht : P.underlying t = some (.struct fs)) (hts : P.cellTypes P.depth t = some ts) (hn : P.cellsOf t = ts.length)
    (he : ts.map P.underlying = ks.map some) (hk : ∀ k ∈ ks, k = .bool ∨ k = .string ∨ ∃ i, k = .int i) (hval : Value.okWide P W r b0 t v) : ∃ avs, Rel ρ (.agg avs) v ∧ flatIs ks avs := by
  simp only [Value.okWide, ht] at hval
  obtain ⟨cs, rfl, hsz, ts', hts', _, hc⟩ := hval
  rw [hts] at hts'; cases hts'
  obtain ⟨avs, q1, q2⟩ := open_cells (P := P) (ρ := ρ) (W := W) (r := r) (b0 := b0) ts ks cs.toList he hk (by rw [Array.length_toList, hsz, hn]) (fun i v hv => by
    have hi : i < ts.length := by
      have : i < cs.toList.length := by
        rcases Nat.lt_or_ge i cs.toList.length with hh | hh
        · exact hh
        · rw [List.getElem?_eq_none hh] at hv; cases hv
      rw [Array.length_toList, hsz, hn] at this; exact this
    obtain ⟨u, hu, hok⟩ := hc i v (by simpa using hv)
    rw [Nat.mod_eq_of_lt hi] at hu
    exact ⟨u, hu, hok⟩)
  exact ⟨avs, .agg _ _ q1, q2⟩

end
end Go.Lite
