/-
  LITE, part q: a region whose order is open: the proof's end; and the code. Own work of this session.
-/
import Derived.Test.YtchffjnmkpedkaaLp
namespace Go.Lite
open Go.RowKit

section
variable {P : Program} {call : Callee} {nt : Nat}
variable {ops : Array Oper} {dl : List DOp} {A : List (List Nat)} {hs : List Hp} {ids : Nat → Nat} {v : Nat → AV} {fr : Fr} {loud : Nat → Bool} {ρ0 : Ren} {h0 : Hp} {w0 : World} {a0 : Act}

theorem dreg_any (hc : CalleeOk P call) (D : DR P call nt ops dl A hs ids v fr loud) {Q : Exit → Act → World → Prop}
    (hQ : ∀ listed a w ρ g, DInv ops dl hs ids v fr loud nt ρ0 h0 w0 a0 listed a w ρ g → (∀ k, k < ops.size → listed.getD k false = true) → Q .normal a w) :
    ∀ (fuel : Nat) (listed : Array Bool) (a : Act) (w : World) (ρ : Ren) (g : Hp), DInv ops dl hs ids v fr loud nt ρ0 h0 w0 a0 listed a w ρ g → cnt (fun k => !listed.getD k false) ops.size ≤ fuel →
      wpAny P .any ops Q fuel listed a w := by
  -- where nothing is ready, all are listed
  have done : ∀ (listed : Array Bool) (a : Act) (w : World) (ρ : Ren) (g : Hp), DInv ops dl hs ids v fr loud nt ρ0 h0 w0 a0 listed a w ρ g → Region.ready .any ops listed = [] → ∀ k, k < ops.size → listed.getD k false = true := by
    intro listed a w ρ g I hr k
    induction k using Nat.strongRecOn with
    | _ k ih =>
      intro hk
      cases hkl : listed.getD k false with
      | true => rfl
      | false =>
        exfalso
        have hsz : k < listed.size := by rw [I.sz]; exact hk
        have hmem : k ∈ Region.ready .any ops listed := by
          unfold Region.ready
          rw [List.mem_filter]
          refine ⟨List.mem_range.2 hk, ?_⟩
          have e1 : listed.getD k true = false := by
            rw [Array.getD_eq_getD_getElem?] at hkl ⊢
            rw [Array.getElem?_eq_getElem hsz] at hkl ⊢
            simpa using hkl
          rw [e1]
          simp only [Bool.not_false, Bool.true_and, Array.getElem?_eq_getElem hk, Option.map_some, Option.getD_some]
          rw [Array.all_eq_true_iff_forall_mem]
          intro e he
          by_cases hb : Region.binds .any e = true
          · have := (chkA_spec D.hA (Array.getElem?_eq_getElem hk)).1 e (by simpa using he) hb
            simp [ih e.on this (by omega)]
          · simp [hb]
        rw [hr] at hmem; cases hmem
  intro fuel
  induction fuel with
  | zero =>
    intro listed a w ρ g I hcnt
    have hall : ∀ k, k < ops.size → listed.getD k false = true := by
      intro k hk
      cases hkl : listed.getD k false with
      | true => rfl
      | false =>
        exfalso
        have : cnt (fun m => decide (m = k)) ops.size ≤ cnt (fun k => !listed.getD k false) ops.size := cnt_le fun m _ hm => by
          have : m = k := by simpa using hm
          subst this; simp [hkl]
        have h1 : cnt (fun m => decide (m = k)) ops.size = cnt (fun _ => false) ops.size + 1 := cnt_insert (i := k) hk rfl (by simp) (fun m hm => by simp [hm])
        omega
    refine ⟨?_, hQ _ _ _ _ _ I hall⟩
    unfold Region.ready
    rw [List.filter_eq_nil_iff]
    intro k hk
    have hk' := List.mem_range.1 hk
    have hsz : k < listed.size := by rw [I.sz]; exact hk'
    have := hall k hk'
    rw [Array.getD_eq_getD_getElem?, Array.getElem?_eq_getElem hsz] at this
    simp only [Option.getD_some] at this
    simp [Array.getD_eq_getD_getElem?, Array.getElem?_eq_getElem hsz, this]
  | succ fuel ih =>
    intro listed a w ρ g I hcnt
    refine ⟨fun hr => hQ _ _ _ _ _ I (done _ _ _ _ _ I hr), ?_⟩
    intro i hi
    unfold Region.ready at hi
    rw [List.mem_filter] at hi
    obtain ⟨hi1, hi2⟩ := hi
    have hin := List.mem_range.1 hi1
    have hsz : i < listed.size := by rw [I.sz]; exact hin
    simp only [Bool.and_eq_true, Bool.not_eq_true'] at hi2
    obtain ⟨hi2, hi3⟩ := hi2
    obtain ⟨o, ho⟩ : ∃ o, ops[i]? = some o := ⟨ops[i], Array.getElem?_eq_getElem hin⟩
    have hni : listed.getD i false = false := by
      rw [Array.getD_eq_getD_getElem?, Array.getElem?_eq_getElem hsz] at hi2 ⊢
      simpa using hi2
    have hr : ∀ e ∈ o.after.toList, Region.binds .any e = true → listed.getD e.on false = true := by
      rw [ho] at hi3
      simp only [Option.map_some, Option.getD_some] at hi3
      rw [Array.all_eq_true_iff_forall_mem] at hi3
      intro e he hb
      have := hi3 e (by simpa using he)
      simpa [hb] using this
    obtain ⟨d, hd, hlow, hloud, hlo, hhi, hjust⟩ := D.op i o ho
    obtain ⟨s1, s2, s3⟩ := lowerOper_spec hlow
    have hcnt' : cnt (fun k => !(listed.setIfInBounds i true).getD k false) ops.size ≤ fuel := by
      have : cnt (fun k => !listed.getD k false) ops.size = cnt (fun k => !(listed.setIfInBounds i true).getD k false) ops.size + 1 :=
        cnt_insert (i := i) hin (by rw [listed_set hsz, if_pos rfl]; rfl) (by rw [hni]; rfl) (fun k hk => by rw [listed_set hsz, if_neg hk])
      omega
    have henv : ∀ X ∈ o.op.operands.toList, EnvOk ρ (frAt (fun k => (ops[k]?).bind (·.dst)) v fr i) a.eval X := by
      intro X hX
      refine envOk_of (fun _ => rfl) (fun _ => rfl) X ?_
      rintro t rfl x hx
      obtain ⟨u, hu, r⟩ := I.env D ho hni hr (t := t) (by
        unfold Oper.looksAt
        refine List.mem_append_left _ (List.mem_filterMap.2 ⟨.tmp t, hX, rfl⟩)) hx
      simp only [Act.eval]
      rw [show a.tmps.getD t undef = u by simp [Array.getD_eq_getD_getElem?, hu]]
      exact r
    have hwant : ∀ b, wantedA (frAt (fun k => (ops[k]?).bind (·.dst)) v fr i) d.guard = some b → Region.wanted o (yielded ops a.tmps) = b := by
      intro b hb
      refine wanted_ok (ρ := ρ) s2 hb ?_
      intro t x hg x' hx'
      refine I.env D ho hni hr (t := t) ?_ hx'
      unfold Oper.looksAt
      refine List.mem_append_right _ ?_
      cases hog : o.guard with
      | none => rw [hog, hg] at s2; simp [lowerGuard] at s2
      | some jw =>
        obtain ⟨j, want⟩ := jw
        rw [hog, hg] at s2
        simp only [lowerGuard] at s2
        cases hdj : (ops[j]?).bind (·.dst) with
        | none => simp [hdj] at s2
        | some t' => simp only [hdj, Option.some.injEq, Prod.mk.injEq] at s2; simp [s2.1, hdj]
    -- an operation by the evaluator's step
    have byStep : ∀ (g' : Hp), evalOp call (frAt (fun k => (ops[k]?).bind (·.dst)) v fr i) g d.o = some (v i, g') → hs[cnt (fun k => loud k && listed.getD k false) ops.size + (if loud i = true then 1 else 0)]? = some g' →
        wantedA (frAt (fun k => (ops[k]?).bind (·.dst)) v fr i) d.guard = some true → wpOp P ops Q i (wpAny P .any ops Q fuel (listed.setIfInBounds i true)) a w := by
      intro g' he hgg hw
      unfold wpOp
      rw [ho]
      simp only
      rw [if_pos (hwant true hw)]
      refine .inl (op_step hc s3 he I.H henv ?_)
      intro ρ' u w' r1 r2 r3
      refine ih _ _ _ ρ' g' (I.next D ho hni hr r3.le r1 r2 hgg ?_ (I.st.trans r3)) hcnt'
      intro k dk cells hk hck hki hkl
      obtain ⟨q1, q2, q3, q4⟩ := I.nw k dk cells hk hck hkl
      have e1 : ρ' (ids k) = none := by
        cases e : ρ' (ids k) with
        | none => rfl
        | some l => have := r3.new _ _ e q1; omega
      exact ⟨e1, by rw [r3.rest _ q3 q1]; exact q2, Nat.lt_of_lt_of_le q3 r3.next⟩
    rcases hjust with ⟨hw, hv, hl⟩ | ⟨hw, hcase⟩
    · -- not wanted
      unfold wpOp
      rw [ho]
      simp only
      rw [if_neg (by rw [hwant false hw]; simp)]
      have hgg : hs[cnt (fun k => loud k && listed.getD k false) ops.size + (if loud i = true then 1 else 0)]? = some g := by
        by_cases hli : loud i = true
        · rw [if_pos hli]
          rw [hloud, beq_iff_eq] at hli
          obtain ⟨g0, hg1, hg2⟩ := hl hli
          have hJ := I.loudNow D ho hni hr (by rw [hloud, beq_iff_eq]; exact hli)
          rw [hJ, hg2]
          have := I.hg
          rw [hJ, hg1] at this
          exact this
        · rw [if_neg hli]; exact I.hg
      refine ih _ _ _ ρ g (I.next D ho hni hr (Ren.le_refl _) (by rw [hv]; exact .tuple _ _ .nil) I.H hgg ?_ I.st) hcnt'
      intro k dk cells hk hck _ hkl
      exact ⟨(I.nw k dk cells hk hck hkl).1, (I.nw k dk cells hk hck hkl).2.1, (I.nw k dk cells hk hck hkl).2.2.1⟩
    · rcases hcase with ⟨hcl, hv⟩ | ⟨hcl, g1, g2, he⟩ | ⟨hcl, agg, a1, p, hdo, hp, hrd⟩ | ⟨hcl, g1, g2, hg1, hg2, he⟩
      · -- a new variable
        have hli : loud i = false := by rw [hloud, hcl]; rfl
        obtain ⟨cells, hdo⟩ : ∃ cells, d.o = .new cells := by
          cases hx : d.o <;> rw [hx] at hcl <;> simp [O.cls] at hcl
          exact ⟨_, rfl⟩
        rw [hdo] at s3
        obtain ⟨e, hop, hz⟩ := lowerOp_new s3
        obtain ⟨z, hz1, hz2⟩ := zero_ok hz w
        obtain ⟨q1, q2, q3, q4⟩ := I.nw i d cells hd hdo hni
        unfold wpOp
        rw [ho]
        simp only
        rw [if_pos (hwant true hw)]
        refine .inl ?_
        have hrun : (execOp a.eval o).run P w = .ok (.value (.pointer (some ⟨w.heap.size, 0, none⟩))) (w.alloc (.cells z.cells e)) := by
          have hx : execOp a.eval o = (do pure (Next.value (← Instr.alloc e true (.tuple #[]))) : Sem Next) := by
            obtain ⟨dst, op, type, pos, after, guard⟩ := o
            simp only at hop
            subst hop
            rfl
          rw [hx]
          exact run_v (by simp [Instr.alloc, hz1, newVar, newRow])
        unfold Oper.wp
        rw [hrun]
        simp only [Oper.upon]
        have hle : ρ.le (ρ.add (ids i) ⟨w.heap.size, 0, z.cells.size⟩) := Ren.le_add q1
        refine ih _ _ _ (ρ.add (ids i) ⟨w.heap.size, 0, z.cells.size⟩) g (I.next D ho hni hr hle ?_ ?_ ?_ ?_ ?_) hcnt'
        · rw [hv]; exact .ptr _ _ _ (Ren.add_same _ _ _)
        · refine ⟨?_, ?_, ?_⟩
          · intro b k l e1 e2
            by_cases hb : b = ids i
            · subst hb
              rw [q2] at e1; rw [Ren.add_same] at e2
              cases e1; cases e2
              refine ⟨z.cells, e, (0, 0), heap_alloc_new w _, rfl, fun _ => rfl, ?_⟩
              intro j x hx
              obtain ⟨u, hu, r⟩ := RelL.get (hz2 ρ) hx
              exact ⟨u, by simpa using hu, Rel.mono hle r⟩
            · rw [Ren.add_ne _ _ hb] at e2
              exact BlkRel.mono hle (BlkRel.grow (I.H.blk b k l e1 e2) (heap_alloc_old w _ _ (I.H.dom b l e2).2))
          · intro b b' k k' l l' e1 e2 hro e3 e4 hrow
            by_cases hb : b = ids i <;> by_cases hb' : b' = ids i
            · rw [hb, hb']
            · subst hb
              rw [Ren.add_same] at e3; cases e3
              rw [Ren.add_ne _ _ hb'] at e4
              have := (I.H.dom b' l' e4).2
              simp at hrow; omega
            · subst hb'
              rw [Ren.add_same] at e4; cases e4
              rw [Ren.add_ne _ _ hb] at e3
              have := (I.H.dom b l e3).2
              simp at hrow; omega
            · rw [Ren.add_ne _ _ hb] at e3; rw [Ren.add_ne _ _ hb'] at e4
              exact I.H.one b b' k k' l l' e1 e2 hro e3 e4 hrow
          · intro b l e1
            by_cases hb : b = ids i
            · subst hb; rw [Ren.add_same] at e1; cases e1; exact ⟨q3, by simp⟩
            · rw [Ren.add_ne _ _ hb] at e1
              have := I.H.dom b l e1
              simp; omega
        · rw [if_neg (by rw [hli]; simp)]; exact I.hg
        · intro k dk cells' hk hck hki hkl
          obtain ⟨p1, p2, p3, _⟩ := I.nw k dk cells' hk hck hkl
          have : ids k ≠ ids i := fun e => hki (D.ids k i dk d cells' cells hk hck hd hdo e)
          exact ⟨by rw [Ren.add_ne _ _ this]; exact p1, p2, p3⟩
        · refine ⟨Ren.le_trans I.st.le hle, ?_, I.st.next, I.st.os, I.st.tape, I.st.output, Nat.le_trans I.st.size (by simp), ?_, ?_, I.st.rest, I.st.ro⟩
          · intro b l e1 e2
            by_cases hb : b = ids i
            · subst hb; exact q4
            · rw [Ren.add_ne _ _ hb] at e1; exact I.st.new b l e1 e2
          · intro r hr ho'
            rw [heap_alloc_old w _ r (Nat.lt_of_lt_of_le hr I.st.size)]
            exact I.st.rows r hr ho'
          · rintro r hr ⟨b, k, l, e1, e2, e3, e4⟩
            by_cases hb : b = ids i
            · subst hb; rw [Ren.add_same] at e3; cases e3
              have := I.st.size
              simp at e4; omega
            · rw [Ren.add_ne _ _ hb] at e3; exact I.st.own r hr ⟨b, k, l, e1, e2, e3, e4⟩
      · -- nothing of memory
        have hli : loud i = false := by rw [hloud, hcl]; rfl
        exact byStep g (pure_indep call hcl he g) (by rw [if_neg (by rw [hli]; simp)]; exact I.hg) hw
      · -- a load
        have hli : loud i = false := by rw [hloud, hcl]; rfl
        have hv : loadA g p agg = some (v i) := by
          refine hrd _ g ?_ ?_ I.hg
          · rw [hlo]
            refine cnt_le fun k hk hkk => ?_
            simp only [Bool.and_eq_true] at hkk ⊢
            exact ⟨hkk.1, (anc_ready D.hA I.cl hin ho hr hkk.2).1⟩
          · rw [hhi]
            refine cnt_le fun k hk hkk => ?_
            simp only [Bool.and_eq_true, Bool.not_eq_true'] at hkk ⊢
            refine ⟨hkk.1, ?_⟩
            cases hak : isAnc A k i with
            | false => rfl
            | true =>
              have := (anc_closed D.hA I.cl k hk hkk.2 i hak).1
              simp only [hni] at this; cases this
        refine byStep g ?_ (by rw [if_neg (by rw [hli]; simp)]; exact I.hg) hw
        rw [hdo]
        unfold evalOp
        simp only [evalO, hp]
        unfold loadA at hv
        cases agg with
        | some n => simp only at hv ⊢; rw [Option.map_eq_some_iff] at hv; obtain ⟨cs, hcs, hv⟩ := hv; rw [hcs]; simp [hv]
        | none => simp only at hv ⊢; rw [hv]; rfl
      · -- a loud one
        have hli : loud i = true := by rw [hloud, hcl]; rfl
        have hJ := I.loudNow D ho hni hr hli
        have hgg := I.hg
        rw [hJ, hg1] at hgg
        cases hgg
        exact byStep g2 he (by rw [if_pos hli, hJ]; exact hg2) hw

end
end Go.Lite
