/-
  LITE, part q: a region whose order is open: the proof's end; and the code. Own work of this session.
-/
import Derived.Test.YtchffjnmkpedkaaLp
set_option linter.unusedSectionVars false
set_option linter.unusedSimpArgs false
set_option linter.unusedVariables false
namespace Go.Lite
set_option linter.unusedSectionVars false
set_option linter.unusedSimpArgs false
set_option linter.unusedVariables false
open Go.RowKit
variable [Ctx]

section
variable {P : Program} {call : Callee} {nt : Nat} {dok : FuncId → Bool} {rd : Option Nat}
variable {ops : Array Oper} {dl : List DOp} {A : List (List Nat)} {hs : List Hp} {ids : Nat → Nat × List AV} {v : Nat → AV} {fr : Fr} {loud : Nat → Bool} {md : Bool} {ρ0 : Ren} {h0 : Hp} {w0 : World} {a0 : Act}

theorem readK_evalO {fr : Fr} {o : O} {rk : RK} (hk : readK fr o = some rk) {g : Hp} {v : AV} (hv : readA g rk = some v) : evalO fr g o = some (.val v, g) := by
  unfold readK at hk
  split at hk
  · rename_i agg a
    split at hk
    case h_2 => cases hk
    rename_i p hp
    cases hk
    simp only [readA, loadA] at hv
    simp only [evalO, hp]
    cases agg with
    | some n => simp only at hv ⊢; rw [Option.map_eq_some_iff] at hv; obtain ⟨cs, hcs, hv⟩ := hv; rw [hcs]; simp [hv]
    | none => simp only at hv ⊢; rw [hv]; rfl
  · rename_i c zero ok m k
    split at hk
    case h_2 => cases hk
    rename_i b x h1 h2
    cases hk
    simp only [readA] at hv
    simp only [evalO, h1, h2, hv, Option.map_some]
  · cases hk

theorem dreg_any (hc : CalleeOk P dok call) (D : DR P call nt ops dl A hs ids v fr loud md) {Q : Exit → Act → World → Prop}
    (hQ : ∀ listed a w ρ g, DInv ops dl hs ids v fr loud md nt ρ0 h0 w0 a0 listed a w ρ g → (∀ k, k < ops.size → listed.getD k false = true) → Q .normal a w) :
    ∀ (fuel : Nat) (listed : Array Bool) (a : Act) (w : World) (ρ : Ren) (g : Hp), DInv ops dl hs ids v fr loud md nt ρ0 h0 w0 a0 listed a w ρ g → cnt (fun k => !listed.getD k false) ops.size ≤ fuel →
      wpAnyIn (fen rd) 0 P .any ops Q fuel listed a w := by
  -- where nothing is ready, all are listed
  have done : ∀ (listed : Array Bool) (a : Act) (w : World) (ρ : Ren) (g : Hp), DInv ops dl hs ids v fr loud md nt ρ0 h0 w0 a0 listed a w ρ g → Region.ready .any ops listed = [] → ∀ k, k < ops.size → listed.getD k false = true := by
    intro listed a w ρ g I hr k
    induction k using Nat.strongRecOn with
    | _ k ih =>
      intro hk
      cases hkl : listed.getD k false with
      | true => rfl
      | false =>
        exfalso
        have hsz : k < listed.size := by rw [I.sz]; exact hk
        have hmem : k ∈ Region.ready .any ops listed := by
          unfold Region.ready
          rw [List.mem_filter]
          refine ⟨List.mem_range.2 hk, ?_⟩
          have e1 : listed.getD k true = false := by
            rw [Array.getD_eq_getD_getElem?] at hkl ⊢
            rw [Array.getElem?_eq_getElem hsz] at hkl ⊢
            simpa using hkl
          rw [e1]
          simp only [Bool.not_false, Bool.true_and, Array.getElem?_eq_getElem hk, Option.map_some, Option.getD_some]
          rw [Array.all_eq_true_iff_forall_mem]
          intro e he
          by_cases hb : Region.binds .any e = true
          · have := (chkA_spec D.hA (Array.getElem?_eq_getElem hk)).1 e (by simpa using he) hb
            simp [ih e.on this (by omega)]
          · simp [hb]
        rw [hr] at hmem; cases hmem
  intro fuel
  induction fuel with
  | zero =>
    intro listed a w ρ g I hcnt
    have hall : ∀ k, k < ops.size → listed.getD k false = true := by
      intro k hk
      cases hkl : listed.getD k false with
      | true => rfl
      | false =>
        exfalso
        have : cnt (fun m => decide (m = k)) ops.size ≤ cnt (fun k => !listed.getD k false) ops.size := cnt_le fun m _ hm => by
          have : m = k := by simpa using hm
          subst this; simp [hkl]
        have h1 : cnt (fun m => decide (m = k)) ops.size = cnt (fun _ => false) ops.size + 1 := cnt_insert (i := k) hk rfl (by simp) (fun m hm => by simp [hm])
        omega
    refine ⟨?_, hQ _ _ _ _ _ I hall⟩
    unfold Region.ready
    rw [List.filter_eq_nil_iff]
    intro k hk
    have hk' := List.mem_range.1 hk
    have hsz : k < listed.size := by rw [I.sz]; exact hk'
    have := hall k hk'
    rw [Array.getD_eq_getD_getElem?, Array.getElem?_eq_getElem hsz] at this
    simp only [Option.getD_some] at this
    simp [Array.getD_eq_getD_getElem?, Array.getElem?_eq_getElem hsz, this]
  | succ fuel ih =>
    intro listed a w ρ g I hcnt
    refine ⟨fun hr => hQ _ _ _ _ _ I (done _ _ _ _ _ I hr), ?_⟩
    intro i hi
    unfold Region.ready at hi
    rw [List.mem_filter] at hi
    obtain ⟨hi1, hi2⟩ := hi
    have hin := List.mem_range.1 hi1
    have hsz : i < listed.size := by rw [I.sz]; exact hin
    simp only [Bool.and_eq_true, Bool.not_eq_true'] at hi2
    obtain ⟨hi2, hi3⟩ := hi2
    obtain ⟨o, ho⟩ : ∃ o, ops[i]? = some o := ⟨ops[i], Array.getElem?_eq_getElem hin⟩
    have hni : listed.getD i false = false := by
      rw [Array.getD_eq_getD_getElem?, Array.getElem?_eq_getElem hsz] at hi2 ⊢
      simpa using hi2
    have hr : ∀ e ∈ o.after.toList, Region.binds .any e = true → listed.getD e.on false = true := by
      rw [ho] at hi3
      simp only [Option.map_some, Option.getD_some] at hi3
      rw [Array.all_eq_true_iff_forall_mem] at hi3
      intro e he hb
      have := hi3 e (by simpa using he)
      simpa [hb] using this
    obtain ⟨d, hd, hlow, hloud, hlo, hhi, hjust⟩ := D.op i o ho
    obtain ⟨s1, s2, s3⟩ := lowerOper_spec hlow
    have hcnt' : cnt (fun k => !(listed.setIfInBounds i true).getD k false) ops.size ≤ fuel := by
      have : cnt (fun k => !listed.getD k false) ops.size = cnt (fun k => !(listed.setIfInBounds i true).getD k false) ops.size + 1 :=
        cnt_insert (i := i) hin (by rw [listed_set hsz, if_pos rfl]; rfl) (by rw [hni]; rfl) (fun k hk => by rw [listed_set hsz, if_neg hk])
      omega
    have henv : ∀ X ∈ o.op.operands.toList, EnvOk ρ (frAt (fun k => (ops[k]?).bind (·.dst)) v fr i) a.eval X := by
      intro X hX
      refine envOk_of (fun _ => rfl) (fun _ => rfl) X ?_
      rintro t rfl x hx
      obtain ⟨u, hu, r⟩ := I.env D ho hni hr (t := t) (by
        unfold Oper.looksAt
        refine List.mem_append_left _ (List.mem_filterMap.2 ⟨.tmp t, hX, rfl⟩)) hx
      simp only [Act.eval]
      rw [show a.tmps.getD t undef = u by simp [Array.getD_eq_getD_getElem?, hu]]
      exact r
    have hwant : ∀ b, wantedA (frAt (fun k => (ops[k]?).bind (·.dst)) v fr i) d.guard = some b → Region.wanted o (yielded ops a.tmps) = b := by
      intro b hb
      refine wanted_ok (ρ := ρ) s2 hb ?_
      intro t x hg x' hx'
      refine I.env D ho hni hr (t := t) ?_ hx'
      unfold Oper.looksAt
      refine List.mem_append_right _ ?_
      cases hog : o.guard with
      | none => rw [hog, hg] at s2; simp [lowerGuard] at s2
      | some jw =>
        obtain ⟨j, want⟩ := jw
        rw [hog, hg] at s2
        simp only [lowerGuard] at s2
        cases hdj : (ops[j]?).bind (·.dst) with
        | none => simp [hdj] at s2
        | some t' => simp only [hdj, Option.some.injEq, Prod.mk.injEq] at s2; simp [s2.1, hdj]
    -- an operation by the evaluator's step
    have byStep : ∀ (g' : Hp), evalOp call (frAt (fun k => (ops[k]?).bind (·.dst)) v fr i) g d.o = some (v i, g') → hs[cnt (fun k => loud k && listed.getD k false) ops.size + (if loud i = true then 1 else 0)]? = some g' →
        wantedA (frAt (fun k => (ops[k]?).bind (·.dst)) v fr i) d.guard = some true → wpOpIn (fen rd) 0 P ops Q i (wpAnyIn (fen rd) 0 P .any ops Q fuel (listed.setIfInBounds i true)) a w := by
      intro g' he hgg hw
      unfold wpOpIn
      rw [ho]
      simp only
      rw [if_pos (hwant true hw)]
      refine op_step hc (lowerOp_of_eval s3 he) he I.H henv ?_
      intro ρ' u w' r1 r2 r3
      refine ih _ _ _ ρ' g' (I.next D ho hni hr r3.le r1 r2 hgg ?_ (I.st.trans r3)) hcnt'
      intro k dk hk hck hki hkl
      obtain ⟨q1, q2, q3, q4⟩ := I.nw k dk hk hck hkl
      have e1 : ρ' (ids k).1 = none := by
        cases e : ρ' (ids k).1 with
        | none => rfl
        | some l => have := r3.new _ _ e q1; omega
      exact ⟨e1, by rw [r3.rest _ q3 q1]; exact q2, Nat.lt_of_lt_of_le q3 r3.next⟩
    rcases hjust with ⟨hw, hv, hl⟩ | ⟨hw, hcase⟩
    · -- not wanted
      unfold wpOpIn
      rw [ho]
      simp only
      rw [if_neg (by rw [hwant false hw]; simp)]
      refine ⟨fun f _ => fen_fn rd f, ?_⟩
      have hgg : hs[cnt (fun k => loud k && listed.getD k false) ops.size + (if loud i = true then 1 else 0)]? = some g := by
        by_cases hli : loud i = true
        · rw [if_pos hli]
          rw [hloud, beq_iff_eq] at hli
          obtain ⟨g0, hg1, hg2⟩ := hl hli
          have hJ := I.loudNow D ho hni hr (by rw [hloud, beq_iff_eq]; exact hli)
          rw [hJ, hg2]
          have := I.hg
          rw [hJ, hg1] at this
          exact this
        · rw [if_neg hli]; exact I.hg
      refine ih _ _ _ ρ g (I.next D ho hni hr (Ren.le_refl _) (by rw [hv]; exact .tuple _ _ .nil) I.H hgg ?_ I.st) hcnt'
      intro k dk hk hck _ hkl
      exact ⟨(I.nw k dk hk hck hkl).1, (I.nw k dk hk hck hkl).2.1, (I.nw k dk hk hck hkl).2.2.1⟩
    · rcases hcase with ⟨hcl, q, hq, hv⟩ | ⟨hcl, g1, g2, he⟩ | ⟨hcl, rk, hrk, hrd⟩ | ⟨hcl, g1, g2, hg1, hg2, he⟩
      · -- an allocation
        have hli : loud i = false := by rw [hloud, hcl]; rfl
        obtain ⟨q1, q2, q3, q4⟩ := I.nw i d hd hcl hni
        generalize hN : g.next + AV.supL (ids i).2 = N
        have HE : HRel ρ ⟨.nil, N⟩ w := ⟨fun b k l e => by simp [Hp.get] at e, fun b b' k k' l l' e => by simp [Hp.get] at e, fun b l e => ⟨by have := (I.H.dom b l e).1; simp only; omega, (I.H.dom b l e).2⟩⟩
        have he : evalOp call (frAt (fun k => (ops[k]?).bind (·.dst)) v fr i) ⟨.nil, N⟩ d.o = some (mkV q N, (⟨.nil, N⟩ : Hp).new ⟨(ids i).2, d.o.kind⟩) := by
          unfold evalOp
          rw [newOf_evalO hq]
        unfold wpOpIn
        rw [ho]
        simp only
        rw [if_pos (hwant true hw)]
        refine op_step hc (lowerOp_of_eval s3 he) he HE henv ?_
        intro ρ' u w' r1 r2 r3
        have nown : ∀ r, ¬ Owned ρ (⟨.nil, N⟩ : Hp) r := by rintro r ⟨b, k, l, e, _⟩; simp [Hp.get] at e
        have hgN : ((⟨.nil, N⟩ : Hp).new ⟨(ids i).2, d.o.kind⟩).get N = some ⟨(ids i).2, d.o.kind⟩ := by rw [Hp.get_new, if_pos rfl]
        obtain ⟨l, hl1, hrel⟩ : ∃ l, ρ' N = some l ∧ ∀ ρ2 : Ren, ρ2 (ids i).1 = some l → Rel ρ2 (mkV q (ids i).1) u := by
          cases q with
          | ptr =>
            simp only [mkV] at r1 ⊢
            cases r1 with
            | ptr _ _ l e => exact ⟨l, e, fun ρ2 e2 => .ptr _ _ l e2⟩
          | slice n c =>
            simp only [mkV] at r1 ⊢
            cases r1 with
            | slice _ _ _ _ off l e h2 h3 => exact ⟨l, e, fun ρ2 e2 => .slice _ _ _ _ off l e2 h2 h3⟩
          | map =>
            simp only [mkV] at r1 ⊢
            cases r1 with
            | map _ l e => exact ⟨l, e, fun ρ2 e2 => .map _ l e2⟩
        have hrow : w.heap.size ≤ l.row := by
          rcases Nat.lt_or_ge l.row w.heap.size with hlt | hge
          · exact absurd (r3.own l.row hlt ⟨N, _, l, hgN, by cases d.o <;> simp [O.kind], hl1, rfl⟩) (nown _)
          · exact hge
        have low : ∀ b l', b < N → ρ' b = some l' → ρ b = some l' := by
          intro b l' hb e
          cases e2 : ρ b with
          | none => have := r3.new b l' e e2; simp only at this; omega
          | some l2 => rw [r3.le _ _ e2] at e; exact e
        have hle : ρ.le (ρ.add (ids i).1 l) := Ren.le_add q1
        refine ih _ _ _ (ρ.add (ids i).1 l) g (I.next D ho hni hr hle ?_ ?_ ?_ ?_ ?_) hcnt'
        · rw [hv]; exact hrel _ (Ren.add_same _ _ _)
        · refine ⟨?_, ?_, ?_⟩
          · intro b k l' e1 e2
            by_cases hb : b = (ids i).1
            · subst hb
              rw [q2] at e1; rw [Ren.add_same] at e2
              cases e1; cases e2
              exact BlkRel.mono hle (BlkRel.low low (AV.lowL_sup (ids i).2 N (by omega)) (by intro r; cases d.o <;> simp [O.kind]) (by intro m s sn la; cases d.o <;> simp [O.kind]) (r2.blk _ _ _ hgN hl1))
            · rw [Ren.add_ne _ _ hb] at e2
              exact BlkRel.mono hle (BlkRel.grow (I.H.blk b k l' e1 e2) (r3.rows _ (I.H.dom b l' e2).2 (nown _)))
          · intro b b' k k' l1 l2 e1 e2 hro e3 e4 hrw
            by_cases hb : b = (ids i).1 <;> by_cases hb' : b' = (ids i).1
            · rw [hb, hb']
            · subst hb
              rw [Ren.add_same] at e3; cases e3
              rw [Ren.add_ne _ _ hb'] at e4
              have := (I.H.dom b' l2 e4).2
              omega
            · subst hb'
              rw [Ren.add_same] at e4; cases e4
              rw [Ren.add_ne _ _ hb] at e3
              have := (I.H.dom b l1 e3).2
              omega
            · rw [Ren.add_ne _ _ hb] at e3; rw [Ren.add_ne _ _ hb'] at e4
              exact I.H.one b b' k k' l1 l2 e1 e2 hro e3 e4 hrw
          · intro b l' e1
            by_cases hb : b = (ids i).1
            · subst hb; rw [Ren.add_same] at e1; cases e1; exact ⟨q3, (r2.dom N l hl1).2⟩
            · rw [Ren.add_ne _ _ hb] at e1
              exact ⟨(I.H.dom b l' e1).1, Nat.lt_of_lt_of_le (I.H.dom b l' e1).2 r3.size⟩
        · rw [if_neg (by rw [hli]; simp)]; exact I.hg
        · intro k dk hk hck hki hkl
          obtain ⟨p1, p2, p3, _⟩ := I.nw k dk hk hck hkl
          have : (ids k).1 ≠ (ids i).1 := fun e => hki (D.ids k i dk d hk hck hd hcl e)
          exact ⟨by rw [Ren.add_ne _ _ this]; exact p1, p2, p3⟩
        · refine ⟨Ren.le_trans I.st.le hle, ?_, I.st.next, r3.os.trans I.st.os, r3.tape.trans I.st.tape, r3.output.trans I.st.output, Nat.le_trans I.st.size r3.size, ?_, ?_, I.st.rest, I.st.ro⟩
          · intro b l' e1 e2
            by_cases hb : b = (ids i).1
            · subst hb; exact q4
            · rw [Ren.add_ne _ _ hb] at e1; exact I.st.new b l' e1 e2
          · intro r hr ho'
            rw [r3.rows r (Nat.lt_of_lt_of_le hr I.st.size) (nown _)]
            exact I.st.rows r hr ho'
          · rintro r hr ⟨b, k, l', e1, e2, e3, e4⟩
            by_cases hb : b = (ids i).1
            · subst hb; rw [Ren.add_same] at e3; cases e3
              have := I.st.size
              omega
            · rw [Ren.add_ne _ _ hb] at e3; exact I.st.own r hr ⟨b, k, l', e1, e2, e3, e4⟩
      · -- nothing of memory
        have hli : loud i = false := by rw [hloud, hcl]; rfl
        exact byStep g (pure_indep call hcl he g) (by rw [if_neg (by rw [hli]; simp)]; exact I.hg) hw
      · -- a load
        have hli : loud i = false := by rw [hloud, hcl]; rfl
        have hv : readA g rk = some (v i) := by
          refine hrd _ g ?_ ?_ I.hg
          · rw [hlo]
            refine cnt_le fun k hk hkk => ?_
            simp only [Bool.and_eq_true] at hkk ⊢
            exact ⟨hkk.1, (anc_ready D.hA I.cl hin ho hr hkk.2).1⟩
          · rw [hhi]
            refine cnt_le fun k hk hkk => ?_
            simp only [Bool.and_eq_true, Bool.not_eq_true'] at hkk ⊢
            refine ⟨hkk.1, ?_⟩
            cases hak : isAnc A k i with
            | false => rfl
            | true =>
              have := (anc_closed D.hA I.cl k hk hkk.2 i hak).1
              simp only [hni] at this; cases this
        refine byStep g ?_ (by rw [if_neg (by rw [hli]; simp)]; exact I.hg) hw
        unfold evalOp
        rw [readK_evalO hrk hv]
      · -- a loud one
        have hli : loud i = true := by rw [hloud, hcl]; rfl
        have hJ := I.loudNow D ho hni hr hli
        have hgg := I.hg
        rw [hJ, hg1] at hgg
        cases hgg
        exact byStep g2 he (by rw [if_pos hli, hJ]; exact hg2) hw

end
end Go.Lite
