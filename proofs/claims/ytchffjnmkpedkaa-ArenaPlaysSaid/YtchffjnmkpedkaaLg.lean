/-
  LITE, part g: append, copy, makes: the operations that turn memory. Own work of this session.
-/
import Derived.Test.YtchffjnmkpedkaaLf
import Derived.Laws.Append
set_option linter.unusedSectionVars false
set_option linter.unusedSimpArgs false
set_option linter.unusedVariables false
namespace Go.Lite
set_option linter.unusedSectionVars false
set_option linter.unusedSimpArgs false
set_option linter.unusedVariables false
open Go.RowKit
variable [Ctx]

section
variable {P : Program} {ρ : Ren} {h : Hp} {w : World}

/-! ### What is written, in the model's own words -/
theorem storeCells_world (P : Program) : ∀ (us : List Value) (w : World) (row off : Nat) (c : Array Value) (e : TypeId) (i : Nat) (a : Addr), w.heap[row]? = some (.cells c e (0, 0)) → off + us.length ≤ c.size →
    (∀ u ∈ us, u.oneCell' = true) → (∀ j, a.add (i + j) = ⟨row, off + j, none⟩) →
    ∃ w' c', (storeCells a us i).run P w = .ok () w' ∧ w'.heap[row]? = some (.cells c' e (0, 0)) ∧ c'.size = c.size ∧ (∀ (j : Nat), j < us.length → c'[off + j]? = us[j]?) ∧ (∀ (j : Nat), (j < off ∨ off + us.length ≤ j) → c'[j]? = c[j]?) ∧
      (∀ r, r ≠ row → w'.heap[r]? = w.heap[r]?) ∧ w'.os = w.os ∧ w'.tape = w.tape ∧ w'.output = w.output ∧ w'.heap.size = w.heap.size
  | [], w, row, off, c, e, i, a, hc, _, _, _ => ⟨w, c, rfl, hc, rfl, fun j hj => by simp at hj, fun _ _ => rfl, fun _ _ => rfl, rfl, rfl, rfl, rfl⟩
  | u :: us, w, row, off, c, e, i, a, hc, hlen, hone, ha => by
    simp only [List.length_cons] at hlen
    have h0 : a.add i = ⟨row, off, none⟩ := ha 0
    have hcell : w.cell? ⟨row, off, none⟩ = some c[off] := by
      simp [World.cell?, hc]
    have hfz : w.frozen? ⟨row, off, none⟩ = false := frozen_of_row w _ _ _ _ hc
    have hs := heap_setCell_same w row off c e u hc
    obtain ⟨w', c', r1, r2, r3, r4, r5, r6, r7, r8, r9, r10⟩ := storeCells_world P us (w.setCell ⟨row, off, none⟩ u) row (off + 1) (c.setIfInBounds off u) e (i + 1) a hs (by simp; omega)
      (fun x hx => hone x (List.mem_cons_of_mem _ hx)) (fun j => by rw [show i + 1 + j = i + (1 + j) by omega, ha (1 + j)]; congr 1; omega)
    refine ⟨w', c', ?_, r2, by simpa using r3, ?_, ?_, ?_, r7, r8, r9, by simpa using r10⟩
    · simp only [Go.storeCells, Sem.run_bind]
      rw [run_store P w _ _ _ (hone u (by simp)), h0, hcell]
      simp only [hfz]
      exact r1
    · intro j hj
      cases j with
      | zero =>
        rw [r5 (off + 0) (.inl (by omega))]
        simp [Array.getElem?_setIfInBounds]; omega
      | succ j =>
        have := r4 j (by simpa using hj)
        rw [show off + (j + 1) = off + 1 + j by omega, this]; simp
    · intro j hj
      rw [r5 j (by simp only [List.length_cons] at hj; omega), Array.getElem?_setIfInBounds, if_neg (by simp only [List.length_cons] at hj; omega)]
    · intro r hr
      rw [r6 r hr]; exact heap_setCell_other w _ r u hr

/-- The first cells of a slice or a text. -/
theorem firstA_ok (H : HRel ρ h w) {esz k n : Nat} {b : AV} {vb : Value} (rb : Rel ρ b vb) {cs : List AV} (hc : firstA h esz k b = some cs) (hn : lenOfA b = some n) (hk : k ≤ n) :
    ∃ us : Array Value, (Builtin.firstCells esz k vb).run P w = .ok us w ∧ RelL ρ cs us.toList := by
  cases rb <;> simp only [lenOfA, reduceCtorEq, Option.some.injEq] at hn <;> subst hn
  · rename_i s
    simp only [firstA, Option.some.injEq] at hc; subst hc
    refine ⟨(s.extract 0 k).data.map fun b => .int .u8 b.toNat, rfl, ?_⟩
    have e1 : (s.extract 0 k).data.toList = s.data.toList.take k := by
      rw [ByteArray.data_extract]; simp
    simp only [Array.toList_map, e1]
    generalize s.data.toList.take k = l
    induction l with
    | nil => exact .nil
    | cons x l ih => exact .cons _ _ _ _ (.int _ _) ih
  · simp only [firstA, Option.some.injEq] at hc; subst hc
    exact ⟨#[], by simp [Builtin.firstCells], .nil⟩
  · rename_i b0 o n0 c0 off l hl hoff hnc
    simp only [firstA] at hc
    by_cases h0 : c0 = 0
    · obtain rfl : k = 0 := by omega
      have := Hp.cells_get hc
      have hcs : cs = [] := by
        have := this.1; simp at this; exact this
      subst hcs
      exact ⟨#[], by simp [Builtin.firstCells, Go.loadCells, Go.loadCellsFrom], .nil⟩
    · obtain rfl : off = l.base + o := by omega
      obtain ⟨us, h1, h2⟩ := H.loadCells (P := P) hc hl
      exact ⟨us, by simpa [Builtin.firstCells] using h1, h2⟩
  · rename_i b0 o n0 e0 c0 off l hl hoff hnc htot
    simp only [firstA] at hc
    by_cases h0 : n0 = 0
    · obtain rfl : k = 0 := by omega
      have := Hp.cells_get hc
      have hcs : cs = [] := by
        have := this.1; simp at this; exact this
      subst hcs
      exact ⟨#[], by simp [Builtin.firstCells, Go.loadCells, Go.loadCellsFrom], .nil⟩
    · obtain rfl : off = l.base + o := by omega
      obtain ⟨us, h1, h2⟩ := H.loadCells (P := P) hc hl
      exact ⟨us, by simpa [Builtin.firstCells] using h1, h2⟩

theorem lenOfA_ok {b : AV} {vb : Value} {k : Nat} (rb : Rel ρ b vb) (hk : lenOfA b = some k) : (Builtin.lenOf vb).run P w = .ok k w := by
  cases rb <;> simp only [lenOfA, reduceCtorEq, Option.some.injEq] at hk <;> subst hk <;> simp [Builtin.lenOf]

/-- A slice that stands behind the same abstract one, by the memory's steps. -/
theorem write_ok (H : HRel ρ h w) {b o : Nat} {l : Loc} (hl : ρ b = some l) {vs : List AV} {us : List Value} (hr : RelL ρ vs us) {h' : Hp} (hw : h.write (b, o) vs = some h') {a : Addr}
    (ha : a = ⟨l.row, l.base + o, none⟩) : ∃ w', (storeCells a us).run P w = .ok () w' ∧ HRel ρ h' w' ∧ Step ρ h w ρ h' w' := by
  unfold Hp.write at hw
  cases hk : h.get b with
  | none => simp [hk] at hw
  | some k =>
    simp only [hk] at hw
    split at hw
    · cases hw
    · rename_i hro
      split at hw
      · rename_i hle
        split at hw
        · rename_i hone
          cases hw
          subst ha
          exact HRel.storeCells (P := P) hr H hk (fun e => hro (.inl e)) (fun e => hro (.inr e)) hle hl hone (by simp [addr_add]) (fun j => by rw [addr_add]; congr 1; omega)
        · cases hw
      · cases hw

theorem zeroCells_size (z : Array Value) (n : Nat) : (Builtin.zeroCells z n).size = n * z.size := by simp [Builtin.zeroCells]

theorem RelL.all_one {vs : List AV} {us : List Value} (hr : RelL ρ vs us) (h1 : vs.all AV.one = true) : ∀ u ∈ us, u.oneCell' = true := by
  intro u hu
  obtain ⟨i, hi, rfl⟩ := List.mem_iff_getElem.1 hu
  have hlen := RelL.length hr
  have hi' : i < vs.length := by omega
  obtain ⟨x, hx, r⟩ := RelL.get hr (List.getElem?_eq_getElem hi')
  rw [List.getElem?_eq_getElem hi] at hx
  cases hx
  exact r.oneCell (List.all_eq_true.1 h1 _ (List.getElem_mem _))

/-- In place, where the capacity is not known: the old block is given up for a new one at the same place. -/
theorem inPlace_ok (H : HRel ρ h w) {b o n e off : Nat} {l : Loc} (hl : ρ b = some l) {blk : Blk} (hk : h.get b = some blk) (hro : blk.kind ≠ .ro) (hkm : ¬ blk.kind.hid = true) (hoff : n = 0 ∨ off = l.base + o)
    {old more all : List AV} {us : List Value} (hold : h.cells (b, o) (n * e) = some old) (hr : RelL ρ more us) (hone : more.all AV.one = true) {p : Nat} (hlen : off + p + us.length ≤ l.tot)
    (hall : ∀ (i : Nat) (v : AV), all[i]? = some v → (i < p ∧ i < n * e ∧ old[i]? = some v) ∨ (p ≤ i ∧ more[i - p]? = some v)) {a : Addr} (ha : a = ⟨l.row, off + p, none⟩) :
    ∃ w', (storeCells a us).run P w = .ok () w' ∧ HRel (ρ.add h.next ⟨l.row, off, l.tot⟩) ((h.kill b).new ⟨all, .grown e⟩) w' ∧ Step ρ h w (ρ.add h.next ⟨l.row, off, l.tot⟩) ((h.kill b).new ⟨all, .grown e⟩) w' := by
  obtain ⟨c, ety, z, h1, h2, h3, h4⟩ := (H.blk b blk l hk hl).1 hkm
  obtain rfl := h3 hro
  have hrowlt := (H.dom b l hl).2
  have hbn := (H.dom b l hl).1
  obtain ⟨w', c', r1, r2, r3, r4, r5, r6, r7, r8, r9, r10⟩ := storeCells_world P us w l.row (off + p) c ety 0 a h1 (by omega) (RelL.all_one hr hone) (fun j => by rw [ha, addr_add]; congr 1; omega)
  have hn : ρ h.next = none := H.none_of_le (Nat.le_refl _)
  have hle : ρ.le (ρ.add h.next ⟨l.row, off, l.tot⟩) := Ren.le_add hn
  have hlive : ∀ b' k' l', h.get b' = some k' → ρ b' = some l' → b' ≠ b → l'.row ≠ l.row := fun b' k' l' e1 e2 hb hh => hb (H.one b b' blk k' l l' hk e1 hro hl e2 hh.symm).symm
  refine ⟨w', r1, ⟨?_, ?_, ?_⟩, ⟨hle, ?_, by simp, r7, r8, r9, by omega, ?_, ?_, ?_, ?_⟩⟩
  · intro b' k' l' e1 e2
    rw [Hp.get_new, Hp.next_kill] at e1
    by_cases hb : b' = h.next
    · subst hb
      rw [if_pos rfl] at e1
      rw [Ren.add_same] at e2
      cases e1; cases e2
      refine BlkRel.flat rfl ⟨c', ety, (0, 0), r2, by show c'.size = l.tot; omega, fun _ => rfl, ?_⟩
      intro i v hv
      show ∃ u, c'[off + i]? = some u ∧ _
      rcases hall i v hv with ⟨hip, hin, hov⟩ | ⟨hip, hmv⟩
      · obtain ⟨_, hget⟩ := Hp.cells_get hold
        have hc0 := hget i v hov
        obtain ⟨u, hu, hr'⟩ := H.cell hc0 hl
        have hne : n ≠ 0 := by intro hn0; subst hn0; simp at hin
        obtain rfl : off = l.base + o := by omega
        refine ⟨u, ?_, Rel.mono hle hr'⟩
        simp only [World.cell?, h1] at hu
        rw [r5 _ (.inl (by omega))]
        rw [Nat.add_assoc]
        simpa using hu
      · obtain ⟨u, hu, hr'⟩ := RelL.get hr hmv
        have hlt : i - p < us.length := by
          rcases Nat.lt_or_ge (i - p) us.length with hh | hh
          · exact hh
          · rw [List.getElem?_eq_none hh] at hu; cases hu
        refine ⟨u, ?_, Rel.mono hle hr'⟩
        rw [show off + i = off + p + (i - p) by omega, r4 _ hlt]; exact hu
    · rw [Ren.add_ne _ _ hb] at e2
      rw [if_neg hb, Hp.get_kill] at e1
      split at e1
      · cases e1
      · rename_i hbb
        exact BlkRel.mono hle (BlkRel.grow (H.blk b' k' l' e1 e2) (r6 _ (hlive b' k' l' e1 e2 hbb)))
  · intro b1 b2 k1 k2 l1 l2 e1 e2 hro1 e3 e4 hrow
    rw [Hp.get_new, Hp.next_kill] at e1 e2
    by_cases hb1 : b1 = h.next <;> by_cases hb2 : b2 = h.next
    · rw [hb1, hb2]
    · subst hb1
      rw [Ren.add_same] at e3; cases e3
      rw [if_neg hb2, Hp.get_kill] at e2; rw [Ren.add_ne _ _ hb2] at e4
      split at e2
      · cases e2
      · rename_i hbb; exact absurd hrow.symm (hlive b2 k2 l2 e2 e4 hbb)
    · subst hb2
      rw [Ren.add_same] at e4; cases e4
      rw [if_neg hb1, Hp.get_kill] at e1; rw [Ren.add_ne _ _ hb1] at e3
      split at e1
      · cases e1
      · rename_i hbb; exact absurd hrow (hlive b1 k1 l1 e1 e3 hbb)
    · rw [if_neg hb1, Hp.get_kill] at e1; rw [Ren.add_ne _ _ hb1] at e3
      rw [if_neg hb2, Hp.get_kill] at e2; rw [Ren.add_ne _ _ hb2] at e4
      split at e1
      · cases e1
      · split at e2
        · cases e2
        · exact H.one b1 b2 k1 k2 l1 l2 e1 e2 hro1 e3 e4 hrow
  · intro b' l' e1
    by_cases hb : b' = h.next
    · subst hb; rw [Ren.add_same] at e1; cases e1; simp; omega
    · rw [Ren.add_ne _ _ hb] at e1
      have := H.dom b' l' e1
      simp; omega
  · intro b' l' e1 e2
    by_cases hb : b' = h.next
    · omega
    · rw [Ren.add_ne _ _ hb, e2] at e1; cases e1
  · intro r _ ho
    exact r6 r (fun hh => ho ⟨b, blk, l, hk, hro, hl, hh.symm⟩)
  · rintro r _ ⟨b', k', l', e1, e2, e3, e4⟩
    rw [Hp.get_new, Hp.next_kill] at e1
    by_cases hb : b' = h.next
    · subst hb; rw [Ren.add_same] at e3; cases e3; exact ⟨b, blk, l, hk, hro, hl, e4⟩
    · rw [if_neg hb, Hp.get_kill] at e1; rw [Ren.add_ne _ _ hb] at e3
      split at e1
      · cases e1
      · exact ⟨b', k', l', e1, e2, e3, e4⟩
  · intro b' hb' e1
    have hbb : b' ≠ b := fun hh => by rw [hh, hl] at e1; cases e1
    rw [Hp.get_new, Hp.next_kill, if_neg (by omega), Hp.get_kill, if_neg hbb]
  · intro b' k' hb' e1 e2
    rw [Hp.get_new, Hp.next_kill, if_neg (by omega), Hp.get_kill] at e1
    split at e1
    · cases e1
    · exact e1

/-- What an append does behind its operands: in place, or in a new block. 'zeros': the new elements' zero. -/
theorem growA_ok (H : HRel ρ h w) {n k esz : Nat} {base : Option (Nat × Nat)} {cap : Cap} {old more : List AV} {va : Value} (ra : Rel ρ (.slice base n cap) va) {us : Array Value} (hr : RelL ρ more us.toList)
    (hone : more.all AV.one = true) (hml : more.length = k * esz) (hk : k ≠ 0) (hold : firstA h esz n (.slice base n cap) = some old) {ous : Array Value} (hor : RelL ρ old ous.toList) (hol : old.length = n * esz)
    {v : AV} {h' : Hp} (hv : growA h esz n k base cap old more = some (v, h')) (e : TypeId) (zc : Array Value) (hz : zc.size = esz) :
    ∃ abase acap, va = .slice abase n acap ∧ (n ≤ acap) ∧
      ((n + k ≤ acap ∧ ∃ w', (match abase with | some a => storeCells (a.add (n * esz)) us.toList | none => pure () : Sem Unit).run P w = .ok () w' ∧
          ∃ ρ', Rel ρ' v (.slice abase (n + k) acap) ∧ HRel ρ' h' w' ∧ Step ρ h w ρ' h' w') ∨
       (¬ n + k ≤ acap ∧ ∀ newCap w1, (∃ m, w1 = { w with drawn := m }) → n + k ≤ newCap →
          ∃ ρ', Rel ρ' v (.slice (some ⟨w1.heap.size, 0, none⟩) (n + k) newCap) ∧
            HRel ρ' h' (w1.alloc (.cells (ous ++ us ++ Builtin.zeroCells zc (newCap - (n + k))) e)) ∧ Step ρ h w ρ' h' (w1.alloc (.cells (ous ++ us ++ Builtin.zeroCells zc (newCap - (n + k))) e)))) := by
  have fresh : ∀ newCap w1, (∃ m, w1 = { w with drawn := m }) → n + k ≤ newCap → ∀ h0 : Hp, (∀ b, ρ b ≠ none → ∀ q, h0.get b = some q → h.get b = some q) → h0.next = h.next → (∀ b, ρ b = none → h0.get b = h.get b) →
      (∀ b q, b < h.next → h0.get b = some q → h.get b = some q) →
      v = .slice (some (h.next, 0)) (n + k) (.more esz) → h' = h0.new ⟨old ++ more, .grown esz⟩ →
      ∃ ρ', Rel ρ' v (.slice (some ⟨w1.heap.size, 0, none⟩) (n + k) newCap) ∧
        HRel ρ' h' (w1.alloc (.cells (ous ++ us ++ Builtin.zeroCells zc (newCap - (n + k))) e)) ∧ Step ρ h w ρ' h' (w1.alloc (.cells (ous ++ us ++ Builtin.zeroCells zc (newCap - (n + k))) e)) := by
    rintro newCap w1 ⟨m, rfl⟩ hcap h0 hg1 hnx hg2 hg3 rfl rfl
    have H0 : HRel ρ h0 w := ⟨fun b q l e1 e2 => H.blk b q l (hg1 b (by rw [e2]; simp) q e1) e2, fun b b' q q' l l' e1 e2 hq e3 e4 => H.one b b' q q' l l' (hg1 b (by rw [e3]; simp) q e1) (hg1 b' (by rw [e4]; simp) q' e2) hq e3 e4,
      fun b l e1 => by rw [hnx]; exact H.dom b l e1⟩
    have H1 : HRel ρ h0 { w with drawn := m } := ⟨H0.blk, H0.one, H0.dom⟩
    have S1 : Step ρ h w ρ h0 { w with drawn := m } := ⟨Ren.le_refl _, fun b l e e' => (by rw [e] at e'; cases e'), by omega, rfl, rfl, rfl, Nat.le_refl _, fun _ _ _ => rfl,
      fun r _ ⟨b, q, l, e1, e2, e3, e4⟩ => ⟨b, q, l, hg1 b (by rw [e3]; simp) q e1, e2, e3, e4⟩, fun b _ e1 => hg2 b e1, fun b q hb e1 _ => hg3 b q hb e1⟩
    have A := H1.alloc (old ++ more) (.grown esz) (ous ++ us ++ Builtin.zeroCells zc (newCap - (n + k))) e (fun i x hx => by
      obtain ⟨u, hu, hr'⟩ := RelL.get (RelL.append hor hr) hx
      refine ⟨u, ?_, hr'⟩
      have hlt : i < (ous.toList ++ us.toList).length := by
        rcases Nat.lt_or_ge i (ous.toList ++ us.toList).length with hh | hh
        · exact hh
        · rw [List.getElem?_eq_none hh] at hu; cases hu
      rw [← Array.getElem?_toList] 
      simp only [Array.toList_append]
      rw [List.getElem?_append_left hlt]; exact hu)
    refine ⟨_, ?_, A.1, S1.trans A.2⟩
    have htot : (ous ++ us ++ Builtin.zeroCells zc (newCap - (n + k))).size = newCap * esz := by
      have e1 := RelL.length hor
      have e2 := RelL.length hr
      simp only [Array.length_toList] at e1 e2
      simp only [Array.size_append, zeroCells_size, hz]
      rw [← e1, ← e2, hml, hol, ← Nat.add_mul, ← Nat.add_mul]
      congr 1; omega
    exact .sliceG h.next 0 (n + k) esz newCap 0 ⟨w.heap.size, 0, _⟩ (by rw [← hnx]; exact Ren.add_same _ _ _) (.inr rfl) hcap (by show 0 + newCap * esz ≤ (ous ++ us ++ Builtin.zeroCells zc (newCap - (n + k))).size; rw [htot]; omega)
  cases ra with
  | sliceNil =>
    refine ⟨none, 0, rfl, Nat.le_refl _, .inr ⟨by omega, fun newCap w1 hw1 hc => ?_⟩⟩
    simp only [growA] at hv
    rw [if_neg (by omega)] at hv
    cases hv
    exact fresh newCap w1 hw1 hc h (fun _ _ _ e => e) rfl (fun _ _ => rfl) (fun _ _ _ e => e) rfl rfl
  | slice b o n' c off l hl hoff hnc =>
    refine ⟨_, c, rfl, hnc, ?_⟩
    simp only [growA] at hv
    by_cases hfit : n + k ≤ c
    · rw [if_pos hfit] at hv
      obtain rfl : off = l.base + o := by omega
      cases hw : h.write (b, o + n * esz) more with
      | none => simp [hw] at hv
      | some h1 =>
        simp only [hw, Option.some.injEq, Prod.mk.injEq] at hv
        obtain ⟨rfl, rfl⟩ := hv
        obtain ⟨w', q1, q2, q3⟩ := write_ok (P := P) H hl hr hw (a := (⟨l.row, l.base + o, none⟩ : Addr).add (n * esz)) (by rw [addr_add]; congr 1; omega)
        exact .inl ⟨hfit, w', by simp [q1], ρ, .slice b o _ c _ l hl (.inr rfl) hfit, q2, q3⟩
    · rw [if_neg hfit] at hv
      cases hv
      exact .inr ⟨hfit, fun newCap w1 hw1 hc => fresh newCap w1 hw1 hc h (fun _ _ _ e => e) rfl (fun _ _ => rfl) (fun _ _ _ e => e) rfl rfl⟩
  | sliceG b o n' e0 c off l hl hoff hnc htot =>
    refine ⟨_, c, rfl, hnc, ?_⟩
    simp only [growA] at hv
    cases hkb : h.get b with
    | none => simp [hkb] at hv
    | some blk =>
      simp only [hkb] at hv
      split at hv
      · rename_i hgr
        obtain ⟨hkind, rfl⟩ := hgr
        simp only [Option.some.injEq, Prod.mk.injEq] at hv
        obtain ⟨rfl, rfl⟩ := hv
        have hro : blk.kind ≠ .ro := by rw [hkind]; simp
        by_cases hfit : n + k ≤ c
        · have hul := RelL.length hr
          simp only [Array.length_toList] at hul
          have hmul : (n + k) * e0 ≤ c * e0 := Nat.mul_le_mul_right _ hfit
          rw [Nat.add_mul] at hmul
          obtain ⟨w', q1, q2, q3⟩ := inPlace_ok (P := P) H hl hkb hro (by rw [hkind]; simp [BK.hid]) hoff (old := old) (more := more) (all := old ++ more) (us := us.toList) (e := e0) (p := n * e0) (by simpa [firstA] using hold) hr hone
            (by simp only [Array.length_toList]; omega)
            (fun i x hx => by
              rw [List.getElem?_append] at hx
              split at hx
              · rename_i hi; exact .inl ⟨by omega, by omega, hx⟩
              · rename_i hi; exact .inr ⟨by omega, by rw [← hol]; exact hx⟩)
            (a := (⟨l.row, off, none⟩ : Addr).add (n * e0)) (by rw [addr_add])
          refine .inl ⟨hfit, w', by simp [q1], _, ?_, q2, q3⟩
          exact .sliceG h.next 0 (n + k) e0 c off ⟨l.row, off, l.tot⟩ (Ren.add_same _ _ _) (.inr rfl) hfit htot
        · refine .inr ⟨hfit, fun newCap w1 hw1 hc => fresh newCap w1 hw1 hc (h.kill b) ?_ rfl ?_ ?_ rfl rfl⟩
          · intro x _ q e1
            rw [Hp.get_kill] at e1
            split at e1
            · cases e1
            · exact e1
          · intro x e1
            rw [Hp.get_kill, if_neg]
            intro hh; rw [hh, hl] at e1; cases e1
          · intro x q _ e1
            rw [Hp.get_kill] at e1
            split at e1
            · cases e1
            · exact e1
      · cases hv

end
end Go.Lite
