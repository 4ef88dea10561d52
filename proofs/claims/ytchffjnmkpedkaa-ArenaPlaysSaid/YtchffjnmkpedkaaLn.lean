/-
  LITE, part n: a region whose order is open: what the text's order says of each operation. Own work of this session.
-/
import Derived.Test.YtchffjnmkpedkaaLm
set_option linter.unusedSectionVars false
set_option linter.unusedSimpArgs false
set_option linter.unusedVariables false
namespace Go.Lite
set_option linter.unusedSectionVars false
set_option linter.unusedSimpArgs false
set_option linter.unusedVariables false
open Go.RowKit
variable [Ctx]

/-! ### Counting -/
def cnt (p : Nat → Bool) (n : Nat) : Nat := ((List.range n).filter p).length

theorem cnt_succ (p : Nat → Bool) (n : Nat) : cnt p (n + 1) = cnt p n + (if p n = true then 1 else 0) := by
  unfold cnt
  rw [List.range_succ, List.filter_append, List.length_append]
  by_cases h : p n = true <;> simp [h]

theorem cnt_le {p q : Nat → Bool} : ∀ {n : Nat}, (∀ k, k < n → p k = true → q k = true) → cnt p n ≤ cnt q n
  | 0, _ => Nat.le_refl _
  | n + 1, h => by
    rw [cnt_succ, cnt_succ]
    have := cnt_le (p := p) (q := q) (n := n) (fun k hk => h k (by omega))
    by_cases hp : p n = true
    · rw [if_pos hp, if_pos (h n (by omega) hp)]; omega
    · rw [if_neg hp]; omega

theorem cnt_congr {p q : Nat → Bool} {n : Nat} (h : ∀ k, k < n → p k = q k) : cnt p n = cnt q n :=
  Nat.le_antisymm (cnt_le fun k hk e => by rw [← h k hk]; exact e) (cnt_le fun k hk e => by rw [h k hk]; exact e)

theorem cnt_insert {p q : Nat → Bool} {i : Nat} : ∀ {n : Nat}, i < n → p i = false → q i = true → (∀ k, k ≠ i → q k = p k) → cnt q n = cnt p n + 1
  | n + 1, hi, hp, hq, h => by
    rw [cnt_succ, cnt_succ]
    by_cases e : i = n
    · subst e
      rw [if_pos hq, if_neg (by rw [hp]; simp), cnt_congr (fun k hk => h k (by omega))]
    · rw [cnt_insert (n := n) (by omega) hp hq h, h n (Ne.symm e)]; omega

theorem cnt_below {p : Nat → Bool} {i : Nat} : ∀ {n : Nat}, i ≤ n → cnt (fun k => p k && decide (k < i)) n = cnt p i
  | 0, h => by obtain rfl : i = 0 := by omega
               rfl
  | n + 1, h => by
    by_cases e : i = n + 1
    · subst e
      exact cnt_congr fun k hk => by simp [hk]
    · rw [cnt_succ, cnt_below (n := n) (by omega), if_neg (by simp; omega)]; rfl

/-! ### What the text's order says -/
section
variable (call : Callee)

/-- Why an operation's value is what it is, by the memories of the region. -/
def Just (md : Bool) (d : DOp) (fr : Fr) (hs : List Hp) (j : Nat) (id : Nat × List AV) (v : AV) : Prop :=
  (wantedA fr d.guard = some false ∧ v = .undef ∧ (d.o.cls md = .loud → ∃ g, hs[j]? = some g ∧ hs[j + 1]? = some g)) ∨
  (wantedA fr d.guard = some true ∧
    ((d.o.cls md = .new ∧ ∃ q, newOf fr d.o = some (id.2, q) ∧ v = mkV q id.1) ∨
     (d.o.cls md = .pure ∧ ∃ g h', evalOp call fr g d.o = some (v, h')) ∨
     (d.o.cls md = .read ∧ ∃ rk, readK fr d.o = some rk ∧ ∀ q g, d.lo ≤ q → q ≤ d.hi → hs[q]? = some g → readA g rk = some v) ∨
     (d.o.cls md = .loud ∧ ∃ g g', hs[j]? = some g ∧ hs[j + 1]? = some g' ∧ evalOp call fr g d.o = some (v, g'))))

/-- Is the operation at this place loud? -/
def loudAt (md : Bool) (l : List DOp) (k : Nat) : Bool := match l[k]? with | some d => d.o.cls md == .loud | none => false

def loudN (md : Bool) (d : DOp) : Nat := if d.o.cls md = .loud then 1 else 0

inductive DTrace (md : Bool) (hs : List Hp) : List DOp → List (Nat × List AV) → Fr → Nat → Fr → List AV → Nat → Prop
  | nil (ids : List (Nat × List AV)) (fr : Fr) (j : Nat) : DTrace md hs [] ids fr j fr [] j
  | cons (d : DOp) (l : List DOp) (ids : List (Nat × List AV)) (fr fr' : Fr) (j jn : Nat) (v : AV) (vs : List AV) : Just call md d fr hs j (ids.headD (0, [])) v → DTrace md hs l ids.tail (putO fr d.dst v) (j + loudN md d) fr' vs jn →
      DTrace md hs (d :: l) ids fr j fr' (v :: vs) jn

theorem readsOk_mem {hs : List Hp} : ∀ {rs : List RD}, readsOk hs rs = true → ∀ r ∈ rs, ∀ (q : Nat) (g : Hp), r.lo ≤ q → q ≤ r.hi → hs[q]? = some g → readA g r.rk = some r.v
  | [], _, r, hr, _, _, _, _, _ => by cases hr
  | r0 :: rs, h, r, hr, q, g, h1, h2, h3 => by
    simp only [readsOk, Bool.and_eq_true] at h
    rcases List.mem_cons.1 hr with rfl | hr
    · have hmem : g ∈ (hs.take (r.hi + 1)).drop r.lo := by
        refine List.mem_of_getElem? (i := q - r.lo) ?_
        rw [List.getElem?_drop, show r.lo + (q - r.lo) = q by omega, List.getElem?_take, if_pos (by omega)]; exact h3
      have := List.all_eq_true.1 h.1 g hmem
      split at this
      · rename_i v hv; rw [hv, AV.eq_of_beq _ _ this]
      · cases this
    · exact readsOk_mem h.2 r hr q g h1 h2 h3

theorem evalD_trace (md : Bool) : ∀ (l : List DOp) (ids : List (Nat × List AV)) (fr : Fr) (h : Hp) (hs0 : List Hp) (rs0 : List RD) (fr' : Fr) (hs : List Hp) (rs : List RD), evalD call md l ids fr h hs0 rs0 = some (fr', hs, rs) →
    ∀ j, hs0.length = j + 1 → hs0[j]? = some h → readsOk hs rs = true → (∃ t, hs = hs0 ++ t) ∧ (∀ r ∈ rs0, r ∈ rs) ∧ ∃ vs jn, DTrace call md hs l ids fr j fr' vs jn ∧ hs.length = jn + 1
  | [], ids, fr, h, hs0, rs0, fr', hs, rs, he, j, hj, _, _ => by
    simp only [evalD, Option.some.injEq, Prod.mk.injEq] at he
    obtain ⟨rfl, rfl, rfl⟩ := he
    exact ⟨⟨[], by simp⟩, fun _ hr => hr, [], j, .nil _ _ _, hj⟩
  | d :: l, ids, fr, h, hs0, rs0, fr', hs, rs, he, j, hj, hjh, hro => by
    simp only [evalD] at he
    split at he
    · -- not wanted
      rename_i hw
      by_cases hc : d.o.cls md = .loud
      · rw [if_pos hc] at he
        obtain ⟨⟨t, ht⟩, hrs, vs, jn, tr, hlen⟩ := evalD_trace md l ids.tail _ h (hs0 ++ [h]) rs0 fr' hs rs he (j + 1) (by simp; omega) (by rw [List.getElem?_append_right (by omega)]; simp [hj]) hro
        refine ⟨⟨[h] ++ t, by rw [ht]; simp⟩, hrs, .undef :: vs, jn, .cons _ _ _ _ _ _ _ _ _ (.inl ⟨hw, rfl, fun _ => ⟨h, ?_, ?_⟩⟩) (by unfold loudN; rw [if_pos hc]; exact tr), hlen⟩
        · rw [ht, List.append_assoc, List.getElem?_append_left (by omega)]; exact hjh
        · rw [ht, List.append_assoc, List.getElem?_append_right (by omega)]; simp [hj]
      · rw [if_neg hc] at he
        obtain ⟨ht, hrs, vs, jn, tr, hlen⟩ := evalD_trace md l ids.tail _ h hs0 rs0 fr' hs rs he j hj hjh hro
        exact ⟨ht, hrs, .undef :: vs, jn, .cons _ _ _ _ _ _ _ _ _ (.inl ⟨hw, rfl, fun e => absurd e hc⟩) (by unfold loudN; rw [if_neg hc]; exact tr), hlen⟩
    · rename_i hw
      split at he
      · rename_i hc
        split at he
        case h_2 => cases he
        rename_i cs q hq
        split at he
        case isFalse => cases he
        rename_i hbeq
        have hcs : cs = (ids.headD (0, [])).2 := by have := AV.eq_of_beq _ _ hbeq; cases this; rfl
        obtain ⟨ht, hrs, vs, jn, tr, hlen⟩ := evalD_trace md l ids.tail _ h hs0 rs0 fr' hs rs he j hj hjh hro
        exact ⟨ht, hrs, _ :: vs, jn, .cons _ _ _ _ _ _ _ _ _ (.inr ⟨hw, .inl ⟨hc, q, by rw [hq, hcs], rfl⟩⟩) (by unfold loudN; rw [if_neg (by rw [hc]; simp)]; exact tr), hlen⟩
      · rename_i hc
        split at he
        case h_2 => cases he
        rename_i v h1 hv
        obtain ⟨ht, hrs, vs, jn, tr, hlen⟩ := evalD_trace md l ids.tail _ h hs0 rs0 fr' hs rs he j hj hjh hro
        exact ⟨ht, hrs, v :: vs, jn, .cons _ _ _ _ _ _ _ _ _ (.inr ⟨hw, .inr (.inl ⟨hc, h, h1, hv⟩)⟩) (by unfold loudN; rw [if_neg (by rw [hc]; simp)]; exact tr), hlen⟩
      · rename_i hc
        split at he
        case h_2 => cases he
        rename_i rk hrk
        split at he
        case h_2 => cases he
        rename_i v hv
        obtain ⟨ht, hrs, vs, jn, tr, hlen⟩ := evalD_trace md l ids.tail _ h hs0 _ fr' hs rs he j hj hjh hro
        refine ⟨ht, fun r hr => hrs r (List.mem_cons_of_mem _ hr), v :: vs, jn, .cons _ _ _ _ _ _ _ _ _ (.inr ⟨hw, .inr (.inr (.inl ⟨hc, rk, hrk, ?_⟩))⟩) (by unfold loudN; rw [if_neg (by rw [hc]; simp)]; exact tr), hlen⟩
        intro q g h1 h2 h3
        exact readsOk_mem hro _ (hrs _ (List.mem_cons_self)) q g h1 h2 h3
      · rename_i hc
        split at he
        case h_2 => cases he
        rename_i v h1 hv
        obtain ⟨⟨t, ht⟩, hrs, vs, jn, tr, hlen⟩ := evalD_trace md l ids.tail _ h1 (hs0 ++ [h1]) rs0 fr' hs rs he (j + 1) (by simp; omega) (by rw [List.getElem?_append_right (by omega)]; simp [hj]) hro
        refine ⟨⟨[h1] ++ t, by rw [ht]; simp⟩, hrs, v :: vs, jn, .cons _ _ _ _ _ _ _ _ _ (.inr ⟨hw, .inr (.inr (.inr ⟨hc, h, h1, ?_, ?_, hv⟩))⟩) (by unfold loudN; rw [if_pos hc]; exact tr), hlen⟩
        · rw [ht, List.append_assoc, List.getElem?_append_left (by omega)]; exact hjh
        · rw [ht, List.append_assoc, List.getElem?_append_right (by omega)]; simp [hj]
    · cases he

/-- The frame ahead of operation i. -/
def frAt (dst : Nat → Option Nat) (v : Nat → AV) (fr0 : Fr) : Nat → Fr
  | 0 => fr0
  | i + 1 => putO (frAt dst v fr0 i) (dst i) (v i)

theorem frAt_shift (dst : Nat → Option Nat) (v : Nat → AV) (fr0 : Fr) : ∀ i, frAt (fun k => dst (k + 1)) (fun k => v (k + 1)) (putO fr0 (dst 0) (v 0)) i = frAt dst v fr0 (i + 1)
  | 0 => rfl
  | i + 1 => by simp only [frAt]; rw [frAt_shift dst v fr0 i]; rfl

theorem DTrace.at {md : Bool} {hs : List Hp} : ∀ {l : List DOp} {ids : List (Nat × List AV)} {fr fr' : Fr} {j jn : Nat} {vs : List AV}, DTrace call md hs l ids fr j fr' vs jn →
    fr' = frAt (fun k => ((l[k]?).bind (·.dst))) (fun k => vs.getD k .undef) fr l.length ∧ jn = j + cnt (loudAt md l) l.length ∧
    ∀ i d, l[i]? = some d → Just call md d (frAt (fun k => ((l[k]?).bind (·.dst))) (fun k => vs.getD k .undef) fr i) hs (j + cnt (loudAt md l) i) (ids.getD i (0, [])) (vs.getD i .undef)
  | _, _, _, _, _, _, _, .nil ids fr j => ⟨rfl, by simp [cnt], fun i d h => by simp at h⟩
  | _, _, _, _, _, _, _, .cons d l ids fr fr' j jn v vs hj tr => by
    obtain ⟨e1, e2, e3⟩ := DTrace.at tr
    have hd : (fun k => (((d :: l)[k + 1]?).bind (fun x : DOp => x.dst))) = (fun k => ((l[k]?).bind (fun x : DOp => x.dst))) := by funext k; simp
    have hv : (fun k => (v :: vs).getD (k + 1) .undef) = (fun k => vs.getD k .undef) := by funext k; simp
    have hsh : ∀ i, frAt (fun k => (((d :: l)[k]?).bind (fun x : DOp => x.dst))) (fun k => (v :: vs).getD k .undef) fr (i + 1) = frAt (fun k => ((l[k]?).bind (fun x : DOp => x.dst))) (fun k => vs.getD k .undef) (putO fr d.dst v) i := by
      intro i
      rw [← frAt_shift, hd, hv]
      rfl
    have hcnt : ∀ i, cnt (loudAt md (d :: l)) (i + 1) = loudN md d + cnt (loudAt md l) i := by
      intro i
      induction i with
      | zero =>
        rw [cnt_succ]
        unfold loudN
        by_cases hc : d.o.cls md = .loud <;> simp [cnt, loudAt, hc]
      | succ i ih =>
        rw [cnt_succ, ih, cnt_succ, show loudAt md (d :: l) (i + 1) = loudAt md l i from rfl]
        omega
    refine ⟨?_, ?_, ?_⟩
    · rw [e1]; simp only [List.length_cons]; rw [hsh]
    · rw [e2]; simp only [List.length_cons]; rw [hcnt]; omega
    · intro i x hx
      cases i with
      | zero =>
        simp only [List.getElem?_cons_zero, Option.some.injEq] at hx; subst hx
        have : ids.getD 0 (0, []) = ids.headD (0, []) := by cases ids <;> rfl
        rw [this]
        simpa [cnt, frAt] using hj
      | succ i =>
        have := e3 i x (by simpa using hx)
        rw [hsh, hcnt]
        have hid : ids.getD (i + 1) (0, []) = ids.tail.getD i (0, []) := by cases ids <;> simp
        rw [hid, show j + (loudN md d + cnt (loudAt md l) i) = j + loudN md d + cnt (loudAt md l) i by omega]
        simpa using this

theorem frAt_get_none {dst : Nat → Option Nat} {v : Nat → AV} {fr0 : Fr} {t : Nat} : ∀ {i : Nat}, (∀ k, k < i → dst k ≠ some t) → (frAt dst v fr0 i).get t = fr0.get t
  | 0, _ => rfl
  | i + 1, h => by
    simp only [frAt]
    have ih := frAt_get_none (dst := dst) (v := v) (fr0 := fr0) (t := t) (i := i) (fun k hk => h k (by omega))
    cases hd : dst i with
    | none => exact ih
    | some s =>
      simp only [putO]
      rw [T.get_set_ne _ _ (by intro e; exact h i (by omega) (by rw [hd, e]))]
      exact ih

theorem frAt_get_one {dst : Nat → Option Nat} {v : Nat → AV} {fr0 : Fr} {t k : Nat} (hk : dst k = some t) : ∀ {i : Nat}, k < i → (∀ m, m ≠ k → dst m ≠ some t) → (frAt dst v fr0 i).get t = some (v k)
  | i + 1, hi, h => by
    simp only [frAt]
    by_cases e : k = i
    · subst e; rw [hk]; simp only [putO]; rw [T.get_set_same]
    · have ih := frAt_get_one (dst := dst) (v := v) (fr0 := fr0) hk (i := i) (by omega) h
      cases hd : dst i with
      | none => exact ih
      | some s =>
        simp only [putO]
        rw [T.get_set_ne _ _ (by intro e'; exact h i (Ne.symm e) (by rw [hd, e']))]
        exact ih

theorem pure_indep {md : Bool} {x : O} (hx : x.cls md = .pure) {fr : Fr} {h h' : Hp} {v : AV} (he : evalOp call fr h x = some (v, h')) (g : Hp) : evalOp call fr g x = some (v, g) := by
  have key : ∀ {out : Out} {h1 : Hp}, evalO fr h x = some (out, h1) → (∃ v, out = .val v) ∧ evalO fr g x = some (out, g) := by
    intro out h1 e
    cases md <;> cases x <;> simp only [O.cls, cond_true, cond_false, reduceCtorEq] at hx <;> simp only [evalO] at e ⊢
    all_goals
      repeat' (first
        | (rw [Option.map_eq_some_iff] at e; obtain ⟨y, hy, e⟩ := e; first | rw [hy] | skip)
        | (split at e))
    all_goals first
      | (cases e; refine ⟨⟨_, rfl⟩, ?_⟩; simp_all <;> omega)
      | cases e
  unfold evalOp at he ⊢
  split at he
  · rename_i v1 h1 e1
    cases he
    obtain ⟨_, e2⟩ := key e1
    rw [e2]
  · rename_i f args h1 e1
    obtain ⟨⟨v, hv⟩, _⟩ := key e1
    cases hv
  · cases he

end
end Go.Lite
