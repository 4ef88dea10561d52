/-
  LITE, part d: the memory's steps: a new block, cells read, cells written. Own work of this session.
-/
import Derived.Test.YtchffjnmkpedkaaLc
import Derived.Laws.Tables
import Derived.Laws.Slices
set_option linter.unusedSectionVars false
set_option linter.unusedSimpArgs false
set_option linter.unusedVariables false
namespace Go.Lite
set_option linter.unusedSectionVars false
set_option linter.unusedSimpArgs false
set_option linter.unusedVariables false
open Go.RowKit
variable [Ctx]

theorem addr_add (r o n : Nat) : (⟨r, o, none⟩ : Addr).add n = ⟨r, o + n, none⟩ := by
  unfold Addr.add; split <;> simp_all

theorem HRel.congr {ρ : Ren} {h h' : Hp} {w : World} (H : HRel ρ h w) (hg : ∀ b, h'.get b = h.get b) (hn : h'.next = h.next) : HRel ρ h' w :=
  ⟨fun b k l e => H.blk b k l (by rw [← hg]; exact e), fun b b' k k' l l' e e' => H.one b b' k k' l l' (by rw [← hg]; exact e) (by rw [← hg]; exact e'), fun b l e => by rw [hn]; exact H.dom b l e⟩

theorem Owned.congr {ρ : Ren} {h h' : Hp} {r : Nat} (hg : ∀ b, h'.get b = h.get b) (o : Owned ρ h' r) : Owned ρ h r :=
  let ⟨b, k, l, e, q⟩ := o
  ⟨b, k, l, by rw [← hg]; exact e, q⟩

theorem Step.congr {ρ ρ' : Ren} {h h1 h2 : Hp} {w w' : World} (s : Step ρ h w ρ' h1 w') (hg : ∀ b, h2.get b = h1.get b) (hn : h2.next = h1.next) : Step ρ h w ρ' h2 w' :=
  ⟨s.le, s.new, by rw [hn]; exact s.next, s.os, s.tape, s.output, s.size, s.rows, fun r hr o => s.own r hr (o.congr hg), fun b hb e => by rw [hg]; exact s.rest b hb e,
    fun b k hb e => s.ro b k hb (by rw [← hg]; exact e)⟩

/-! ### A new block -/
def Ren.add (ρ : Ren) (b : Nat) (l : Loc) : Ren := fun x => if x = b then some l else ρ x
theorem Ren.add_same (ρ : Ren) (b : Nat) (l : Loc) : ρ.add b l b = some l := by simp [Ren.add]
theorem Ren.add_ne (ρ : Ren) {b x : Nat} (l : Loc) (h : x ≠ b) : ρ.add b l x = ρ x := by simp [Ren.add, h]
theorem Ren.le_add {ρ : Ren} {b : Nat} {l : Loc} (h : ρ b = none) : ρ.le (ρ.add b l) := fun x y e => by
  by_cases hx : x = b
  · subst hx; rw [h] at e; cases e
  · rw [Ren.add_ne _ _ hx]; exact e

theorem HRel.none_of_le {ρ : Ren} {h : Hp} {w : World} (H : HRel ρ h w) {b : Nat} (hb : h.next ≤ b) : ρ b = none := by
  cases e : ρ b with
  | none => rfl
  | some l => have := (H.dom b l e).1; omega

theorem BlkRel.grow {ρ : Ren} {w w' : World} {k : Blk} {l : Loc} (B : BlkRel ρ w k l) (h : w'.heap[l.row]? = w.heap[l.row]?) : BlkRel ρ w' k l :=
  ⟨fun hk => let ⟨c, e, z, h1, h2⟩ := B.1 hk; ⟨c, e, z, by rw [h]; exact h1, h2⟩, fun c bs hk => let ⟨es, h1, h2⟩ := B.2.1 c bs hk; ⟨es, by rw [h]; exact h1, h2⟩,
   fun m s sn la hk => let ⟨m', h1, h2⟩ := B.2.2.1 m s sn la hk; ⟨m', by rw [h]; exact h1, h2⟩,
   fun r hk => let ⟨rec, nt, h1, h2⟩ := B.2.2.2 r hk; ⟨rec, nt, by rw [h]; exact h1, h2⟩⟩

theorem heap_push_lt (w : World) (o : Obj) (r : Nat) (h : r < w.heap.size) : (w.alloc o).heap[r]? = w.heap[r]? := heap_alloc_old w o r h

/-- A new object, and the block that stands for it. -/
theorem HRel.allocO {ρ : Ren} {h : Hp} {w : World} (H : HRel ρ h w) (blk : Blk) (o : Obj) (tot : Nat) (hB : ∀ ρ' : Ren, ρ.le ρ' → BlkRel ρ' (w.alloc o) blk ⟨w.heap.size, 0, tot⟩) :
    HRel (ρ.add h.next ⟨w.heap.size, 0, tot⟩) (h.new blk) (w.alloc o) ∧ Step ρ h w (ρ.add h.next ⟨w.heap.size, 0, tot⟩) (h.new blk) (w.alloc o) := by
  have hn : ρ h.next = none := H.none_of_le (Nat.le_refl _)
  have hle : ρ.le (ρ.add h.next ⟨w.heap.size, 0, tot⟩) := Ren.le_add hn
  refine ⟨⟨?_, ?_, ?_⟩, ⟨hle, ?_, by simp, rfl, rfl, rfl, by simp, ?_, ?_, ?_, ?_⟩⟩
  · intro b k l e1 e2
    rw [Hp.get_new] at e1
    by_cases hb : b = h.next
    · subst hb
      rw [if_pos rfl] at e1; rw [Ren.add_same] at e2
      cases e1; cases e2
      exact hB _ hle
    · rw [if_neg hb] at e1; rw [Ren.add_ne _ _ hb] at e2
      exact BlkRel.mono hle (BlkRel.grow (H.blk b k l e1 e2) (heap_alloc_old w _ _ (H.dom b l e2).2))
  · intro b b' k k' l l' e1 e2 hro e3 e4 hr
    rw [Hp.get_new] at e1 e2
    by_cases hb : b = h.next
    · by_cases hb' : b' = h.next
      · rw [hb, hb']
      · subst hb
        rw [Ren.add_same] at e3; rw [Ren.add_ne _ _ hb'] at e4
        cases e3
        have := (H.dom b' l' e4).2
        simp at hr; omega
    · by_cases hb' : b' = h.next
      · subst hb'
        rw [Ren.add_same] at e4; rw [Ren.add_ne _ _ hb] at e3
        cases e4
        have := (H.dom b l e3).2
        simp at hr; omega
      · rw [if_neg hb] at e1; rw [if_neg hb'] at e2; rw [Ren.add_ne _ _ hb] at e3; rw [Ren.add_ne _ _ hb'] at e4
        exact H.one b b' k k' l l' e1 e2 hro e3 e4 hr
  · intro b l e1
    by_cases hb : b = h.next
    · subst hb; rw [Ren.add_same] at e1; cases e1; simp
    · rw [Ren.add_ne _ _ hb] at e1
      have := H.dom b l e1
      simp; omega
  · intro b l e1 e2
    by_cases hb : b = h.next
    · omega
    · rw [Ren.add_ne _ _ hb, e2] at e1; cases e1
  · intro r hr _; exact heap_alloc_old w _ r hr
  · rintro r hr ⟨b, k, l, e1, e2, e3, e4⟩
    rw [Hp.get_new] at e1
    by_cases hb : b = h.next
    · subst hb; rw [Ren.add_same] at e3; cases e3; simp at e4; omega
    · rw [if_neg hb] at e1; rw [Ren.add_ne _ _ hb] at e3; exact ⟨b, k, l, e1, e2, e3, e4⟩
  · intro b hb _; rw [Hp.get_new, if_neg (by omega)]
  · intro b k hb e1 e2; rw [Hp.get_new, if_neg (by omega)] at e1; exact e1

/-- 'pre': the evaluator's cells are the first of the model's. -/
theorem HRel.alloc {ρ : Ren} {h : Hp} {w : World} (H : HRel ρ h w) (cells : List AV) (kind : BK) (c : Array Value) (e : TypeId)
    (pre : ∀ (i : Nat) (v : AV), cells[i]? = some v → ∃ u, c[i]? = some u ∧ Rel ρ v u) (hkm : ¬ kind.hid = true := by simp [BK.hid]) :
    HRel (ρ.add h.next ⟨w.heap.size, 0, c.size⟩) (h.new ⟨cells, kind⟩) (w.alloc (.cells c e)) ∧
    Step ρ h w (ρ.add h.next ⟨w.heap.size, 0, c.size⟩) (h.new ⟨cells, kind⟩) (w.alloc (.cells c e)) :=
  H.allocO ⟨cells, kind⟩ (.cells c e) c.size fun ρ' hle => BlkRel.flat (by simpa using hkm) ⟨c, e, (0, 0), heap_alloc_new w _, rfl, fun _ => rfl, fun i v hv => by
    obtain ⟨u, hu, r⟩ := pre i v hv
    exact ⟨u, by simpa using hu, Rel.mono hle r⟩⟩

/-- A row's object that becomes another one. -/
theorem HRel.setRow {ρ : Ren} {h : Hp} {w : World} (H : HRel ρ h w) {b : Nat} {k k' : Blk} {l : Loc} (hk : h.get b = some k) (hro : k.kind ≠ .ro) (hl : ρ b = some l) (hro' : k'.kind ≠ .ro) (o : Obj)
    (hB : BlkRel ρ { w with heap := w.heap.setIfInBounds l.row o } k' l) :
    HRel ρ (h.put b k') { w with heap := w.heap.setIfInBounds l.row o } ∧ Step ρ h w ρ (h.put b k') { w with heap := w.heap.setIfInBounds l.row o } := by
  have hother : ∀ r, r ≠ l.row → (w.heap.setIfInBounds l.row o)[r]? = w.heap[r]? := fun r hr => by
    rw [Array.getElem?_setIfInBounds, if_neg (Ne.symm hr)]
  have hown : Owned ρ h l.row := ⟨b, k, l, hk, hro, hl, rfl⟩
  refine ⟨⟨?_, ?_, ?_⟩, ⟨Ren.le_refl _, ?_, Nat.le_refl _, rfl, rfl, rfl, by simp, ?_, ?_, ?_, ?_⟩⟩
  · intro b' k1 l' e1 e2
    rw [Hp.get_put] at e1
    by_cases hb : b' = b
    · subst hb
      rw [if_pos rfl] at e1; cases e1
      rw [hl] at e2; cases e2
      exact hB
    · rw [if_neg hb] at e1
      have hrow : l'.row ≠ l.row := fun hh => hb (H.one b b' k k1 l l' hk e1 hro hl e2 hh.symm).symm
      exact BlkRel.grow (H.blk b' k1 l' e1 e2) (hother _ hrow)
  · intro b1 b2 k1 k2 l1 l2 e1 e2 hr1 e3 e4 hrow
    rw [Hp.get_put] at e1 e2
    by_cases hb1 : b1 = b <;> by_cases hb2 : b2 = b
    · rw [hb1, hb2]
    · subst hb1; rw [if_neg hb2] at e2; exact H.one b1 b2 k k2 l1 l2 hk e2 hro e3 e4 hrow
    · subst hb2; rw [if_neg hb1] at e1; exact H.one b1 b2 k1 k l1 l2 e1 hk hr1 e3 e4 hrow
    · rw [if_neg hb1] at e1; rw [if_neg hb2] at e2; exact H.one b1 b2 k1 k2 l1 l2 e1 e2 hr1 e3 e4 hrow
  · intro b' l' e1; simpa using H.dom b' l' e1
  · intro b' l' e1 e2; rw [e1] at e2; cases e2
  · intro r _ ho'; exact hother r (fun hh => ho' (hh ▸ hown))
  · rintro r _ ⟨b', k1, l', e1, e2, e3, e4⟩
    rw [Hp.get_put] at e1
    by_cases hb : b' = b
    · subst hb; rw [hl] at e3; cases e3; exact e4 ▸ hown
    · rw [if_neg hb] at e1; exact ⟨b', k1, l', e1, e2, e3, e4⟩
  · intro b' _ e1
    have hb : b' ≠ b := fun hh => by rw [hh, hl] at e1; cases e1
    rw [Hp.get_put, if_neg hb]
  · intro b1 k1 _ e1 e2
    rw [Hp.get_put] at e1
    by_cases hb : b1 = b
    · subst hb; rw [if_pos rfl] at e1; cases e1; exact absurd e2 hro'
    · rwa [if_neg hb] at e1

/-- A change of rows of which the evaluator knows nothing. -/
theorem HRel.aside {ρ : Ren} {h : Hp} {w w' : World} (H : HRel ρ h w) (hs : w.heap.size ≤ w'.heap.size) (hos : w'.os = w.os) (ht : w'.tape = w.tape) (ho : w'.output = w.output)
    (hr : ∀ b k l, h.get b = some k → ρ b = some l → w'.heap[l.row]? = w.heap[l.row]?) : HRel ρ h w' :=
  ⟨fun b k l e1 e2 => BlkRel.grow (H.blk b k l e1 e2) (hr b k l e1 e2), H.one, fun b l e => ⟨(H.dom b l e).1, Nat.lt_of_lt_of_le (H.dom b l e).2 hs⟩⟩

/-- A new object of which the evaluator knows nothing. -/
theorem HRel.allocX {ρ : Ren} {h : Hp} {w : World} (H : HRel ρ h w) (o : Obj) : HRel ρ h (w.alloc o) ∧ Step ρ h w ρ h (w.alloc o) :=
  ⟨H.aside (by simp) rfl rfl rfl fun b k l e1 e2 => heap_alloc_old w o _ (H.dom b l e2).2,
   ⟨Ren.le_refl _, fun b l e e' => (by rw [e] at e'; cases e'), Nat.le_refl _, rfl, rfl, rfl, by simp, fun r hr _ => heap_alloc_old w o r hr, fun _ _ o => o, fun _ _ _ => rfl, fun _ _ _ e _ => e⟩⟩

/-! ### Cells read -/
theorem HRel.cell {ρ : Ren} {h : Hp} {w : World} (H : HRel ρ h w) {b o : Nat} {v : AV} {l : Loc} (hv : h.cell (b, o) = some v) (hl : ρ b = some l) :
    ∃ u, w.cell? ⟨l.row, l.base + o, none⟩ = some u ∧ Rel ρ v u := by
  unfold Hp.cell at hv
  cases hk : h.get b with
  | none => simp [hk] at hv
  | some k =>
    simp only [hk] at hv
    split at hv
    · cases hv
    rename_i hkm
    obtain ⟨c, e, z, h1, h2, h3, h4⟩ := (H.blk b k l hk hl).1 hkm
    obtain ⟨u, hu, r⟩ := h4 o v hv
    exact ⟨u, by simp [World.cell?, h1, hu], r⟩

theorem Hp.cells_get {h : Hp} {b o n : Nat} {l : List AV} (hc : h.cells (b, o) n = some l) : l.length = n ∧ ∀ i v, l[i]? = some v → h.cell (b, o + i) = some v := by
  unfold Hp.cells at hc
  cases hk : h.get b with
  | none => simp [hk] at hc
  | some k =>
    simp only [hk] at hc
    split at hc
    · cases hc
    rename_i hkm
    split at hc
    · rename_i hle
      simp only [Option.some.injEq] at hc
      subst hc
      refine ⟨by simp; omega, ?_⟩
      intro i v hv
      simp only [Hp.cell, hk]
      rw [if_neg hkm]
      rw [List.getElem?_take] at hv
      split at hv
      · rw [List.getElem?_drop] at hv; exact hv
      · cases hv
    · cases hc

theorem HRel.loadCells {ρ : Ren} {h : Hp} {w : World} {P : Program} (H : HRel ρ h w) {b o n : Nat} {l : List AV} {lc : Loc} (hc : h.cells (b, o) n = some l) (hl : ρ b = some lc) :
    ∃ us, (loadCells ⟨lc.row, lc.base + o, none⟩ n).run P w = .ok us w ∧ RelL ρ l us.toList := by
  obtain ⟨hlen, hget⟩ := Hp.cells_get hc
  have key : ∀ (i : Nat) (v : AV), l[i]? = some v → ∃ u, w.cell? ⟨lc.row, lc.base + (o + i), none⟩ = some u ∧ Rel ρ v u := fun i v hv => H.cell (hget i v hv) hl
  obtain ⟨us, hus, hrel⟩ : ∃ us : List Value, (∀ i u, us[i]? = some u → w.cell? ((⟨lc.row, lc.base + o, none⟩ : Addr).add i) = some u) ∧ RelL ρ l us := by
    clear hget hc hlen
    induction l generalizing o with
    | nil => exact ⟨[], by simp, .nil⟩
    | cons a l ih =>
      obtain ⟨u, hu, hr⟩ := key 0 a (by simp)
      obtain ⟨us, h1, h2⟩ := ih (o := o + 1) (fun i v hv => by
        have := key (i + 1) v (by simpa using hv)
        rwa [show o + 1 + i = o + (i + 1) by omega])
      refine ⟨u :: us, ?_, .cons _ _ _ _ hr h2⟩
      intro i x hx
      cases i with
      | zero => simp at hx; subst hx; rw [addr_add]; simpa using hu
      | succ i =>
        have := h1 i x (by simpa using hx)
        rw [addr_add] at this ⊢
        rwa [show lc.base + o + (i + 1) = lc.base + (o + 1) + i by omega]
  have hl2 : us.length = n := by rw [← RelL.length hrel, hlen]
  refine ⟨us.toArray, ?_, by simpa using hrel⟩
  rw [← hl2]
  exact run_loadCells_list (P := P) w _ us hus

/-! ### Cells written -/
theorem splice_length : ∀ (vs l : List AV) (o : Nat), (splice l o vs).length = l.length
  | [], _, _ => rfl
  | v :: vs, l, o => by simp [splice, splice_length vs]

theorem HRel.store1 {ρ : Ren} {h : Hp} {w : World} (H : HRel ρ h w) {b o : Nat} {k : Blk} {l : Loc} (hk : h.get b = some k) (hro : k.kind ≠ .ro) (hkm : ¬ k.kind.hid = true) (ho : o < k.cells.length) (hl : ρ b = some l)
    {v : AV} {u : Value} (hr : Rel ρ v u) :
    w.cell? ⟨l.row, l.base + o, none⟩ ≠ none ∧ w.frozen? ⟨l.row, l.base + o, none⟩ = false ∧
    HRel ρ (h.put b { k with cells := k.cells.set o v }) (w.setCell ⟨l.row, l.base + o, none⟩ u) ∧
    Step ρ h w ρ (h.put b { k with cells := k.cells.set o v }) (w.setCell ⟨l.row, l.base + o, none⟩ u) := by
  obtain ⟨c, e, z, h1, h2, h3, h4⟩ := (H.blk b k l hk hl).1 hkm
  obtain rfl := h3 hro
  obtain ⟨u0, hu0, _⟩ := h4 o _ (List.getElem?_eq_getElem ho)
  have hother : ∀ r, r ≠ l.row → (w.setCell ⟨l.row, l.base + o, none⟩ u).heap[r]? = w.heap[r]? := fun r hr => heap_setCell_other w _ r u hr
  have hown : Owned ρ h l.row := ⟨b, k, l, hk, hro, hl, rfl⟩
  refine ⟨by simp [World.cell?, h1, hu0], frozen_of_row w _ _ _ _ h1, ⟨?_, ?_, ?_⟩, ⟨Ren.le_refl _, ?_, Nat.le_refl _, rfl, rfl, rfl, by simp, ?_, ?_, ?_, ?_⟩⟩
  · intro b' k' l' e1 e2
    rw [Hp.get_put] at e1
    by_cases hb : b' = b
    · subst hb
      rw [if_pos rfl] at e1; cases e1
      rw [hl] at e2; cases e2
      refine BlkRel.flat (by simpa using hkm) ⟨_, e, _, heap_setCell_same w _ _ _ _ u h1, by simpa using h2, fun _ => rfl, ?_⟩
      intro i v' hv'
      simp only [List.getElem?_set] at hv'
      by_cases hi : o = i
      · subst hi
        rw [if_pos rfl, if_pos ho] at hv'; cases hv'
        refine ⟨u, ?_, hr⟩
        have : l.base + o < c.size := by
          rcases Nat.lt_or_ge (l.base + o) c.size with hh | hh
          · exact hh
          · rw [Array.getElem?_eq_none hh] at hu0; cases hu0
        simp [this]
      · rw [if_neg hi] at hv'
        obtain ⟨u', hu', r'⟩ := h4 i v' hv'
        refine ⟨u', ?_, r'⟩
        rw [Array.getElem?_setIfInBounds, if_neg (by omega)]; exact hu'
    · rw [if_neg hb] at e1
      have hrow : l'.row ≠ l.row := fun hh => hb (H.one b b' k k' l l' hk e1 hro hl e2 hh.symm).symm
      exact BlkRel.grow (H.blk b' k' l' e1 e2) (hother _ hrow)
  · intro b1 b2 k1 k2 l1 l2 e1 e2 hr1 e3 e4 hrow
    rw [Hp.get_put] at e1 e2
    by_cases hb1 : b1 = b <;> by_cases hb2 : b2 = b
    · rw [hb1, hb2]
    · subst hb1; rw [if_neg hb2] at e2; exact H.one b1 b2 k k2 l1 l2 hk e2 hro e3 e4 hrow
    · subst hb2; rw [if_neg hb1] at e1; exact H.one b1 b2 k1 k l1 l2 e1 hk hr1 e3 e4 hrow
    · rw [if_neg hb1] at e1; rw [if_neg hb2] at e2; exact H.one b1 b2 k1 k2 l1 l2 e1 e2 hr1 e3 e4 hrow
  · intro b' l' e1; simpa using H.dom b' l' e1
  · intro b' l' e1 e2; rw [e1] at e2; cases e2
  · intro r _ ho'; exact hother r (fun hh => ho' (hh ▸ hown))
  · rintro r _ ⟨b', k', l', e1, e2, e3, e4⟩
    rw [Hp.get_put] at e1
    by_cases hb : b' = b
    · subst hb; rw [hl] at e3; cases e3; exact e4 ▸ hown
    · rw [if_neg hb] at e1; exact ⟨b', k', l', e1, e2, e3, e4⟩
  · intro b' _ e1
    have hb : b' ≠ b := fun hh => by rw [hh, hl] at e1; cases e1
    rw [Hp.get_put, if_neg hb]
  · intro b' k' _ e1 e2
    rw [Hp.get_put] at e1
    by_cases hb : b' = b
    · subst hb; rw [if_pos rfl] at e1; cases e1; exact absurd e2 hro
    · rwa [if_neg hb] at e1

theorem HRel.storeCells {ρ : Ren} {P : Program} : ∀ {vs : List AV} {us : List Value}, RelL ρ vs us → ∀ {h : Hp} {w : World}, HRel ρ h w → ∀ {b o : Nat} {k : Blk} {l : Loc}, h.get b = some k → k.kind ≠ .ro → ¬ k.kind.hid = true →
    o + vs.length ≤ k.cells.length → ρ b = some l → vs.all AV.one = true → ∀ {i : Nat} {a : Addr}, a.add i = ⟨l.row, l.base + o, none⟩ →
    (∀ j, a.add (i + j) = ⟨l.row, l.base + o + j, none⟩) →
    ∃ w', (storeCells a us i).run P w = .ok () w' ∧ HRel ρ (h.put b { k with cells := splice k.cells o vs }) w' ∧ Step ρ h w ρ (h.put b { k with cells := splice k.cells o vs }) w'
  | [], _, .nil, h, w, H, b, o, k, l, hk, _, _, _, _, _, i, a, _, _ => by
    refine ⟨w, rfl, H.congr (fun x => ?_) rfl, (Step.refl ρ h w).congr (fun x => ?_) rfl⟩ <;>
    · rw [Hp.get_put]; split
      · rename_i hx; subst hx; rw [hk]; rfl
      · rfl
  | v :: vs, _, .cons _ u _ us hr hrs, h, w, H, b, o, k, l, hk, hro, hkm, hlen, hl, hone, i, a, ha, haj => by
    simp only [List.all_cons, Bool.and_eq_true] at hone
    simp only [List.length_cons] at hlen
    obtain ⟨s1, s2, s3, s4⟩ := H.store1 hk hro hkm (o := o) (by omega) hl hr
    have hk1 : (h.put b { k with cells := k.cells.set o v }).get b = some { k with cells := k.cells.set o v } := by rw [Hp.get_put, if_pos rfl]
    obtain ⟨w', r1, r2, r3⟩ := HRel.storeCells (P := P) hrs s3 (b := b) (o := o + 1) (l := l) hk1 hro hkm (by simp; omega) hl hone.2 (i := i + 1) (a := a) (by rw [haj 1, Nat.add_assoc])
      (fun j => by rw [show i + 1 + j = i + (1 + j) by omega, haj (1 + j)]; congr 1; omega)
    have hg : ∀ x, (h.put b { k with cells := splice k.cells o (v :: vs) }).get x = ((h.put b { k with cells := k.cells.set o v }).put b { k with cells := splice (k.cells.set o v) (o + 1) vs }).get x := by
      intro x; rw [Hp.get_put, Hp.get_put, Hp.get_put]; split <;> rfl
    refine ⟨w', ?_, r2.congr hg rfl, (s4.trans r3).congr hg rfl⟩
    simp only [Go.storeCells, Sem.run_bind]
    rw [run_store P w _ _ _ (hr.oneCell hone.1), ha]
    cases hc : w.cell? ⟨l.row, l.base + o, none⟩ with
    | none => exact absurd hc s1
    | some x => simp only [s2]; exact r1

end Go.Lite
