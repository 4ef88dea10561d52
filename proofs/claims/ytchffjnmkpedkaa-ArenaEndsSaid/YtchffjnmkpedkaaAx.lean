/-
  The arena: Drop, whole: what it comes to. Own work of this session.
-/
import Derived.Test.YtchffjnmkpedkaaAw
set_option linter.unusedSectionVars false
set_option linter.unusedSimpArgs false
set_option linter.unusedVariables false
namespace Go.Proofs.Ytchffjnmkpedkaa
set_option linter.unusedSectionVars false
set_option linter.unusedSimpArgs false
set_option linter.unusedVariables false
open Go.Lite Go.RowKit Go.Lite.Arena
set_option maxHeartbeats 4000000
set_option maxRecDepth 10000

theorem F2_drop : F2 18 = some (.text s18) := rfl

theorem push_loop {call : Lite.Callee} {k : Nat} (hk : 8 < k) {fr : Fr} {h : Hp} {kids l : List Int} {w : AV} {q : Nat} (h8 : kids.length = 8) (hlen : l.length + 8 < 1000000000) (g53 : fr.get 53 = some (.agg (kids.map (AV.int .i64)))) (g54 : fr.get 54 = some (.int .i64 0)) (g5 : fr.get 5 = some w)
    (hw : WaitAt h w l q) (hq : q < h.next) :
    ∃ fr' h' w' q', evalS call k (.block 2 (.loop s18_l0)) fr h = some (.normal, fr', h') ∧ fr'.get 5 = some w' ∧ fr'.get 0 = fr.get 0 ∧ fr'.get 6 = fr.get 6 ∧ WaitAt h' w' (l ++ kids.filter (fun x => x != 0)) q' ∧ Kept h h' [q] ∧ (q' = q ∨ h.next ≤ q') ∧ q' < h'.next := by
  obtain ⟨x, fr', h', hit, _, rfl, i, w', q', hi, hi8, _, _, g5', g0', g6', hw', hk', hq', hqn'⟩ := iter_inv (body := evalS call k s18_l0) (PushI kids l h q (fr.get 0) (fr.get 6)) (fun x fr' h' => x = .exit 2 ∧ PushI kids l h q (fr.get 0) (fr.get 6) 0 fr' h')
    (fun m fr' h' I => by
      rcases push_step (call := call) (k := k) h8 hlen m fr' h' I with ⟨m', fr2, h2, e, hlt, I2⟩ | ⟨x, fr2, h2, e, hx, hx2, I2⟩
      · exact .inl ⟨m', fr2, h2, e, hlt, I2⟩
      · exact .inr ⟨x, fr2, h2, e, hx, hx2, I2⟩) k 8 fr h hk ⟨0, w, q, rfl, by omega, g53, g54, g5, rfl, rfl, by simpa using hw, Kept.refl _ _, .inl rfl, hq⟩
  obtain rfl : i = 8 := by omega
  refine ⟨fr', h', w', q', ?_, g5', g0', g6', ?_, hk', hq', hqn'⟩
  · simp only [evalS, hit, if_true]
  · rw [List.take_of_length_le (by omega)] at hw'; exact hw'

/-- Between two rounds of Drop's loop. -/
structure DropI (a : Nat) (most : Int) (S0 : St) (id : Int) (bs fs0 : List Nat) (h0 : Hp) (m : Nat) (fr : Fr) (h : Hp) : Prop where
  g0 : fr.get 0 = some (.ptr (some (a, 0)))
  ex : ∃ (S : St) (l : List Int) (w : AV) (q : Nat) (fs : List Nat), fr.get 5 = some w ∧ AAt h a most S bs fs ∧ WaitAt h w l q ∧ q < h.next ∧ q ∉ a :: (bs ++ fs) ∧ h0.next ≤ q ∧ m = l.length + 9 * total S ∧ Kept h0 h (a :: (bs ++ fs0)) ∧ (∀ c ∈ fs, c ∈ fs0 ∨ h0.next ≤ c) ∧
    (∀ T, Runs l.reverse S T → Runs [id] S0 T) ∧ total S ≤ total S0 ∧ l.length + 9 * total S ≤ 1 + 9 * total S0 ∧ S.length = S0.length

theorem rf_dec_self (S : St) (k : Int) : rf (dec S k) k = rf S k - 1 := by rw [rf_dec, if_pos rfl]

theorem kids_cells {S : St} {h : Hp} {b : Nat} (hb : h.get b = some ⟨S.flatMap slotC, .grown 26⟩) {i : Nat} {x : Nd × Nat} (hx : S[i]? = some x) : h.cells (b, i * 26 + 1) 8 = some (x.1.kids.map (AV.int .i64)) := by
  have hlt : i < S.length := by
    rcases Nat.lt_or_ge i S.length with hh | hh
    · exact hh
    · rw [List.getElem?_eq_none hh] at hx; cases hx
  have hle : i * 26 + 26 ≤ S.length * 26 := by
    have := Nat.mul_le_mul_right 26 (show i + 1 ≤ S.length from hlt)
    omega
  rw [Hp.cells_at hb rfl (by rw [flat_length slotC_len]; omega)]
  rw [flat_cells slotC_len S i 1 8 x hx (by omega)]
  simp only [slotC, nodeC, List.cons_append, List.drop_succ_cons, List.drop_zero, List.append_assoc]
  rw [List.take_append_of_le_length (by simp [x.1.hk]), List.take_of_length_le (by simp [x.1.hk])]

theorem drop_step {k : Nat} {a : Nat} {most : Int} {S0 : St} {id : Int} {bs fs0 : List Nat} {h0 : Hp} (hk : S0.length + 20 < k) (hlen0 : S0.length < 1000000) (htot : 9 * total S0 + 10 < 1000000000) (m : Nat) (fr : Fr) (h : Hp) (I : DropI a most S0 id bs fs0 h0 m fr h) :
    (∃ m' fr' h', evalS (evalT F2 k) k s18_l1 fr h = some (.normal, fr', h') ∧ m' < m ∧ DropI a most S0 id bs fs0 h0 m' fr' h') ∨
    (∃ x fr' h', evalS (evalT F2 k) k s18_l1 fr h = some (x, fr', h') ∧ x ≠ .normal ∧ x = .exit 0 ∧ ∃ S fs, AAt h' a most S bs fs ∧ Kept h0 h' (a :: (bs ++ fs0)) ∧ (∀ c ∈ fs, c ∈ fs0 ∨ h0.next ≤ c) ∧ Runs [id] S0 S) := by
  obtain ⟨g0, S, l, w, q, fs, g5, A, hw, hqn, hqa, hq0, rfl, hkp, hfs, hrun, htS, hll, hSS⟩ := I
  rcases List.eq_nil_or_concat l with rfl | ⟨l', x, rfl⟩
  · -- nothing waits
    right
    obtain ⟨cap, rfl⟩ := wait_len hw
    obtain ⟨fr1, eA, _⟩ := dA_end (k := k) (h := h) (call := evalT F2 k) g5
    refine ⟨.exit 0, fr1, h, ?_, by simp, rfl, S, fs, A, hkp, hfs, hrun S (.nil S)⟩
    rw [d_eq]
    simp only [evalS, eA]
  · left
    rw [List.concat_eq_append] at *
    have hll' : l'.length + 1 + 9 * total S ≤ 1 + 9 * total S0 := by simpa using hll
    obtain ⟨cap, hwe⟩ := wait_len hw
    have g5' : fr.get 5 = some (.slice (some (q, 0)) (l'.length + 1) cap) := by rw [g5, hwe]; simp
    obtain ⟨fr1, eA, kA⟩ := dA_more (k := k) (h := h) (call := evalT F2 k) g5'
    obtain ⟨fr2, e1, s6, s0, s5⟩ := d1_ok (k := k) (h := h) (fr := fr1) (call := evalT F2 k) (by rw [kA 5 (by omega)]; exact g5) hw (by omega)
    obtain ⟨fr3, w', e2, t5, hw', t0, t6⟩ := d2_ok (k := k) (h := h) (fr := fr2) (call := evalT F2 k) (by rw [s5, kA 5 (by omega)]; exact g5) hw (by omega)
    have u0 : fr3.get 0 = some (.ptr (some (a, 0))) := by rw [t0, s0, kA 0 (by omega)]; exact g0
    have u6 : fr3.get 6 = some (.int .i64 x) := by rw [t6]; exact s6
    obtain ⟨⟨sl, fl, hA1, hS1, hF1⟩, hnd, hlt, hSl⟩ := A
    have A : AAt h a most S bs fs := ⟨⟨sl, fl, hA1, hS1, hF1⟩, hnd, hlt, hSl⟩
    have eslot := slot_ok (n := k) (by omega) hA1 hS1 hSl x
    obtain ⟨fr4, e3, v7, v0, v6, v5⟩ := d3_ok (F := F2) (k := k) (h := h) (fr := fr3) u0 u6 eslot
    have y0 : fr4.get 0 = some (.ptr (some (a, 0))) := by rw [v0]; exact u0
    have y5 : fr4.get 5 = some w' := by rw [v5]; exact t5
    have y6 : fr4.get 6 = some (.int .i64 x) := by rw [v6]; exact u6
    by_cases hz : rf S x = 0
    · -- there is no such node
      rw [slotP, if_pos hz] at v7
      obtain ⟨fr5, e4, k4⟩ := d4_nil (k := k) (h := h) (fr := fr4) (call := evalT F2 k) v7
      refine ⟨l'.length + 9 * total S, fr5, h, ?_, by simp, ⟨by rw [k4 0 (by omega)]; exact y0, S, l', w', q, fs, by rw [k4 5 (by omega)]; exact y5, A, hw', hqn, hqa, hq0, rfl, hkp, hfs, fun T hT => hrun T ?_, htS, by omega, hSS⟩⟩
      · rw [d_eq]
        simp only [evalS, eA, e1, e2, e3, e4, if_true]
      · rw [List.reverse_append]
        exact .dead x _ S T hz hT
    · obtain ⟨hx1, hxl, nd, hnd1, hnr, hat⟩ := rf_pos hz
      obtain ⟨b, rfl, rfl, hb⟩ := slots_block hS1 hxl
      rw [slotP, if_neg hz] at v7
      simp only [List.headD_cons] at v7
      obtain ⟨fr5, e4, k4⟩ := d4_some (k := k) (h := h) (fr := fr4) (call := evalT F2 k) v7
      have c1 := refs_cell hb hz
      have w1 : h.write (b, (x - 1).toNat * 26 + 25) [.int .i64 ((rf S x - 1 : Nat) : Int)] = some (h.put b ⟨(dec S x).flatMap slotC, .grown 26⟩) := upd_write hb hz (· - 1)
      have hb2 : (h.put b ⟨(dec S x).flatMap slotC, .grown 26⟩).get b = some ⟨(dec S x).flatMap slotC, .grown 26⟩ := by rw [Hp.get_put, if_pos rfl]
      have hdl : (dec S x).length = S.length := length_upd _ _ _
      have hnd2 : (dec S x)[(x - 1).toNat]? = some (nd.1, rf S x - 1) := by
        have := at_upd (· - 1) S x x
        rw [if_pos rfl, hat] at this
        unfold at? at this
        rw [if_pos hx1] at this
        simp only [dec]
        rw [this, hnr.symm]; rfl
      have c2 : (h.put b ⟨(dec S x).flatMap slotC, .grown 26⟩).cell (b, (x - 1).toNat * 26 + 25) = some (.int .i64 ((rf S x - 1 : Nat) : Int)) := by
        rw [Hp.cell_at hb2 rfl, flat_get slotC_len _ _ 25 (by omega), hnd2]
        exact slotC_refs _
      have hrt := rf_le_total S x
      have hcast : ((rf S x : Nat) : Int) = ((rf S x - 1 : Nat) : Int) + 1 := by omega
      rw [hcast] at c1
      obtain ⟨fr6, e5, k5⟩ := d5_ok (k := k) (h := h) (fr := fr5) (call := evalT F2 k) (by rw [k4 7 (by omega)]; exact v7) c1 w1 c2 (by omega) (by omega)
      have z0 : fr6.get 0 = some (.ptr (some (a, 0))) := by rw [k5 0 (by omega), k4 0 (by omega)]; exact y0
      have z5 : fr6.get 5 = some w' := by rw [k5 5 (by omega), k4 5 (by omega)]; exact y5
      have z6 : fr6.get 6 = some (.int .i64 x) := by rw [k5 6 (by omega), k4 6 (by omega)]; exact y6
      have z7 : fr6.get 7 = some (.ptr (some (b, (x - 1).toNat * 26))) := by rw [k5 7 (by omega), k4 7 (by omega)]; exact v7
      simp only [List.cons_append, List.nil_append, List.mem_cons, not_or] at hqa
      have hqb : q ≠ b := hqa.2.1
      have kp1 : Kept h (h.put b ⟨(dec S x).flatMap slotC, .grown 26⟩) [b] := ⟨Nat.le_refl _, fun c _ hc => by rw [Hp.get_put, if_neg (by simpa using hc)]⟩
      have hkp1 : Kept h0 (h.put b ⟨(dec S x).flatMap slotC, .grown 26⟩) (a :: ([b] ++ fs0)) := hkp.trans kp1 (fun c hc => .inl (by simp at hc ⊢; exact .inr (.inl hc)))
      have hw1 : WaitAt (h.put b ⟨(dec S x).flatMap slotC, .grown 26⟩) w' l' q := wait_kept hw' (by rw [Hp.get_put, if_neg hqb])
      have htd := total_dec S x hz
      by_cases h1r : rf S x = 1
      · -- nobody asks for it any more
        have hr0 : ((rf S x - 1 : Nat) : Int) = 0 := by omega
        rw [hr0, if_pos rfl] at e5
        obtain ⟨frK, eK, g53, g54, kK⟩ := dK_ok (k := k) (h := h.put b ⟨(dec S x).flatMap slotC, .grown 26⟩) (fr := fr6) (call := evalT F2 k) z7 (kids_cells hb2 hnd2)
        obtain ⟨frL, h2, w2, q2, eL, x5, x0, x6, hw2, kp2, hq2, hq2n⟩ := push_loop (call := evalT F2 k) (k := k) (by omega) nd.1.hk (by omega) g53 g54 (by rw [kK 5 (by omega)]; exact z5) hw1 hqn
        have hab : a ≠ b := by simp only [List.cons_append, List.nil_append, List.nodup_cons, List.mem_cons, not_or] at hnd; exact hnd.1.1
        have hg2 : ∀ c ∈ a :: ([b] ++ fs), h2.get c = (h.put b ⟨(dec S x).flatMap slotC, .grown 26⟩).get c := fun c hc => kp2.2 c (hlt c hc) (by
          rw [List.mem_singleton]
          rintro rfl
          simp only [List.cons_append, List.nil_append, List.mem_cons] at hc
          rcases hc with e | e | e
          · exact hqa.1 e
          · exact hqa.2.1 e
          · exact hqa.2.2 e)
        have hA2 : h2.get a = some ⟨[.int .i64 most, .slice (some (b, 0)) S.length (.more 26), fl], .own⟩ := by rw [hg2 a (by simp), Hp.get_put, if_neg hab]; exact hA1
        have hb3 : h2.get b = some ⟨(dec S x).flatMap slotC, .grown 26⟩ := by rw [hg2 b (by simp), Hp.get_put, if_pos rfl]
        have hbfs : b ∉ fs := by simp only [List.cons_append, List.nil_append, List.nodup_cons, List.mem_cons, not_or] at hnd; exact hnd.2.1
        have hafs : a ∉ fs := by simp only [List.cons_append, List.nil_append, List.nodup_cons, List.mem_cons, not_or] at hnd; exact hnd.1.2
        have hF2 : FreeAt h2 fl (freeOf S) fs := free_congr hF1 fun f hf => by
          rw [hg2 f (by simp [hf]), Hp.get_put, if_neg]
          rintro rfl; exact hbfs hf
        have hfl := freeOf_length S
        obtain ⟨c, h3, eg, hspot, ga, gf, gn, kp3⟩ := gone_ok (n := k) (id := x) (by omega) hA2 hF2 (freeOf_desc S) (fun y hy => by have := mem_freeOf.1 hy; omega) (by omega) (by omega) (Nat.lt_of_lt_of_le (hlt a (by simp)) kp2.1)
          (fun f hf => ⟨Nat.lt_of_lt_of_le (hlt f (by simp [hf])) kp2.1, fun e => hafs (e ▸ hf)⟩)
        obtain ⟨frG, eG, kG⟩ := dG_ok (F := F2) (k := k) (h := h2) (fr := frL) (by rw [x0, kK 0 (by omega)]; exact z0) (by rw [x6, kK 6 (by omega)]; exact z6) eg
        have hfree : freeOf (dec S x) = (freeOf S).take c ++ [x] ++ (freeOf S).drop c := freeOf_gone hdl hx1 (by omega) hz (by rw [rf_dec_self]; omega) (fun y hy => by rw [rf_dec, if_neg hy]) hspot
        have hfreel : (freeOf (dec S x)).length = (freeOf S).length + 1 := by rw [hfree]; have := hspot.1; simp; omega
        have hnext2 : h.next ≤ h2.next := kp2.1
        have hq2a : q2 ∉ a :: ([b] ++ fs) := by
          intro hc
          rcases hq2 with e | e
          · subst e
            simp only [List.cons_append, List.nil_append, List.mem_cons] at hc
            rcases hc with e | e | e
            · exact hqa.1 e
            · exact hqa.2.1 e
            · exact hqa.2.2 e
          · have := hlt q2 hc
            simp at e
            omega
        have hq2a' : q2 ∉ a :: fs := fun hc => hq2a (by simp only [List.cons_append, List.nil_append, List.mem_cons] at hc ⊢; exact hc.imp (fun e => e) .inr)
        refine ⟨(l' ++ nd.1.kids.filter (fun x => x != 0)).length + 9 * total (dec S x), frG, h3, ?_, ?_, ⟨?_, dec S x, _, w2, q2, [h2.next + 1], ?_, ?_, ?_, ?_, ?_, ?_, rfl, ?_, ?_, ?_, ?_, ?_, by omega⟩⟩
        · rw [d_eq]
          simp only [evalS, eA, e1, e2, e3, e4, e5, eK]
          simp only [evalS] at eL
          rw [eL]
          simp only [eG]
        · have := List.length_filter_le (fun x => x != 0) nd.1.kids
          have := nd.1.hk
          simp only [List.length_append, List.length_singleton]
          omega
        · rw [kG 0 (by omega), x0, kK 0 (by omega)]; exact z0
        · rw [kG 5 (by omega)]; exact x5
        · refine ⟨⟨_, _, ga, ⟨by rw [hdl], ?_⟩, ?_⟩, ?_, ?_, by omega⟩
          · rw [kp3.2 b (Nat.lt_of_lt_of_le (hlt b (by simp)) kp2.1) (by simp only [List.mem_cons, not_or]; exact ⟨fun e => hab e.symm, hbfs⟩)]; exact hb3
          · exact ⟨by rw [hfreel], [], by rw [gf, hfree]; simp⟩
          · simp only [List.cons_append, List.nil_append, List.nodup_cons, List.mem_cons, not_or, List.mem_singleton, List.not_mem_nil, not_false_eq_true, List.nodup_nil, and_true]
            have ha := hlt a (by simp)
            have hb4 := hlt b (by simp)
            exact ⟨⟨hab, by omega⟩, by omega⟩
          · intro c hc
            simp only [List.cons_append, List.nil_append, List.mem_cons, List.not_mem_nil, or_false] at hc
            have ha := hlt a (by simp)
            have hb4 := hlt b (by simp)
            rcases hc with rfl | rfl | rfl <;> omega
        · exact wait_kept hw2 (kp3.2 q2 hq2n hq2a')
        · omega
        · simp only [List.cons_append, List.nil_append, List.mem_cons, not_or, List.not_mem_nil, not_false_eq_true, and_true]
          simp only [List.cons_append, List.nil_append, List.mem_cons, not_or] at hq2a
          exact ⟨hq2a.1, hq2a.2.1, by omega⟩
        · rcases hq2 with e | e
          · rw [e]; exact hq0
          · have := hkp.1; simp at e; omega
        · refine (hkp1.trans kp2 (fun c hc => .inr ?_)).trans kp3 (fun c hc => ?_)
          · rw [List.mem_singleton] at hc; rw [hc]; exact hq0
          · simp only [List.mem_cons] at hc
            rcases hc with rfl | hc
            · exact .inl (by simp)
            · rcases hfs c hc with e | e
              · exact .inl (by simp [e])
              · exact .inr e
        · intro c hc
          rw [List.mem_singleton] at hc
          have := hkp.1
          exact .inr (by omega)
        · intro T hT
          refine hrun T ?_
          rw [List.reverse_append]
          refine .last x _ S T h1r ?_
          have hkids : kidsOf S x = nd.1.kids := by unfold kidsOf; rw [hat]; rfl
          rw [hkids]
          refine Runs.filter _ _ ?_
          refine Runs.perm _ _ (Nat.le_refl _) ?_ hT
          rw [List.reverse_append]
          exact (List.reverse_perm _).append_right _
        · omega
        · have := List.length_filter_le (fun x => x != 0) nd.1.kids
          have := nd.1.hk
          simp only [List.length_append]
          omega
      · -- it is still asked for
        have hr0 : ¬ ((rf S x - 1 : Nat) : Int) = 0 := by omega
        rw [if_neg hr0] at e5
        refine ⟨l'.length + 9 * total (dec S x), fr6, _, ?_, by simp; omega, ⟨z0, dec S x, l', w', q, fs, z5, A.turn hdl (freeOf_same hdl fun y => ?_), hw1, hqn, by simp only [List.cons_append, List.nil_append, List.mem_cons, not_or]; exact hqa, hq0, rfl, hkp1, hfs, fun T hT => hrun T ?_, by omega, by omega, by rw [hdl]; exact hSS⟩⟩
        · rw [d_eq]
          simp only [evalS, eA, e1, e2, e3, e4, e5, if_true]
        · rw [rf_dec]
          split
          · rename_i e; subst e; omega
          · rfl
        · rw [List.reverse_append]
          exact .more x _ S T (by omega) hT

/-- Drop. -/
theorem drop_ok {n : Nat} {h : Hp} {a : Nat} {most : Int} {S : St} {bs fs : List Nat} (A : AAt h a most S bs fs) (htot : 9 * total S + 10 < 1000000000) (hn : 9 * total S + S.length + 30 < n) (id : Int) :
    (rf S id = 0 → evalFn F2 n 18 [.ptr (some (a, 0)), .int .i64 id] h = some (.int .i64 10, h)) ∧
    (rf S id ≠ 0 → ∃ h' S' fs', evalFn F2 n 18 [.ptr (some (a, 0)), .int .i64 id] h = some (.int .i64 0, h') ∧ AAt h' a most S' bs fs' ∧ Kept h h' (a :: (bs ++ fs)) ∧ (∀ c ∈ fs', c ∈ fs ∨ h.next ≤ c) ∧ Runs [id] S S') := by
  obtain ⟨k, rfl⟩ : ∃ k, n = k + 1 := ⟨n - 1, by omega⟩
  obtain ⟨⟨sl, fl, hA1, hS1, hF1⟩, hnd, hlt, hSl⟩ := A
  have A : AAt h a most S bs fs := ⟨⟨sl, fl, hA1, hS1, hF1⟩, hnd, hlt, hSl⟩
  have eslot := slot_ok (n := k) (by omega) hA1 hS1 hSl id
  refine ⟨fun hz => ?_, fun hz => ?_⟩
  · rw [slotP, if_pos hz] at eslot
    have e2 := none_ok (n := k) (by omega) h (a, 0)
    simp (maxSteps := 4000000) only [evalFn_text F2_drop, evalT_fn, BK.hid, cond_true, cond_false, guess0, List.tail_nil, List.headD_nil, evalS, evalOps, evalOp, evalO, wantedA, opd, opds, optOpd, optInt, putO, frameOf, T.get_set, T.get_nil, Option.map_some, Option.map_none, Nat.reduceEqDiff, if_true, if_false, reduceIte, reduceCtorEq, Nat.reduceAdd, resA, oneOrTuple, binA, binInt, eqA, lenA, capA, unA, partA, partsA, fillA_nil, sliceA, bounds_none, bounds_lo, bounds_hi, bounds_lohi, evalDreg_false, List.take_succ_cons, List.take_zero, List.take_nil, List.drop_zero, List.drop_succ_cons, List.drop_nil, AV.beq, eq_self, hoist, evalD, O.cls, readsOk, List.tail_cons, List.headD_cons, List.nil_append, List.cons_append, List.getLast?_cons_cons, List.getLast?_singleton, Nat.sub_zero, Int.toNat_natCast, ite_self, Nat.add_zero, Nat.zero_add, Nat.zero_mul, Option.isNone_none, Option.isNone_some, Option.isSome_none, Option.isSome_some, Int.reduceBEq, Int.reduceBNe, Int.reduceLT, Int.reduceLE, Int.reduceGT, Int.reduceGE, Int.reduceEq, decide_true, decide_false, Bool.not_true, Bool.not_false, Int.reduceMul, Int.reduceAdd, Int.reduceSub, Int.reduceToNat, Nat.reduceMul, Nat.reduceSub, Nat.reduceLT, Nat.reduceLeDiff, beq_self_eq_true, bne_self_eq_false, Bool.true_beq, Bool.false_beq, ne_eq, not_true_eq_false, not_false_eq_true, Bool.false_eq_true, Bool.or_self, or_self, AV.cells, AV.one, List.all_cons, List.all_nil, Bool.and_true, Bool.true_and, List.length_cons, List.length_nil, splice, List.set_cons_zero, List.set_cons_succ, Nat.le_refl, Nat.reduceLeDiff, iter_succ, readA, readK, loadA, List.getElem?_cons_zero, List.getElem?_cons_succ, Bool.and_self, and_self, and_true, true_and, s18, eslot, e2]
  · rw [slotP, if_neg hz] at eslot
    have f1 : fillA [.int .i64 0] [(0, 1, .int .i64 id)] = some [.int .i64 id] := rfl
    let fr0 : Fr := (((((((frameOf 0 [.ptr (some (a, 0)), .int .i64 id]).set 4 (some (.int .i64 0))).set 10 (some (.ptr (some (a, 0))))).set 11 (some (.int .i64 id))).set 12 (some (.ptr (some (bs.headD 0, (id - 1).toNat * 26))))).set 13 (some (.bool false))).set 16 (some (.int .i64 id))).set 17 (some (.slice (some (h.next, 0)) 1 (.known 1))) |>.set 5 (some (.slice (some (h.next, 0)) 1 (.known 1)))
    have kp0 : Kept h (h.new ⟨[.int .i64 id], .own⟩) (a :: (bs ++ fs)) := ⟨by simp, fun c hc _ => get_new_ne hc _⟩
    have I0 : DropI a most S id bs fs h (1 + 9 * total S) fr0 (h.new ⟨[.int .i64 id], .own⟩) := by
      refine ⟨by simp [fr0, frameOf, T.get_set], S, [id], _, h.next, fs, by simp [fr0, T.get_set], A.kept (l := []) ⟨by simp, fun c hc _ => get_new_ne hc _⟩ (by simp), ⟨.known 1, [], .own, rfl, by rw [Hp.get_new, if_pos rfl]; rfl, .inl ⟨rfl, rfl, by simp⟩⟩, by simp, ?_, Nat.le_refl _, rfl, kp0, fun c hc => .inl hc, fun T hT => hT, Nat.le_refl _, by simp, rfl⟩
      intro hc
      have := hlt _ hc
      omega
    obtain ⟨x, fr1, h1, hit, _, rfl, S', fs', A', kp', hfs', hrun⟩ := iter_inv (body := evalS (evalT F2 k) k s18_l1) (DropI a most S id bs fs h) (fun x fr' h' => x = .exit 0 ∧ ∃ S' fs', AAt h' a most S' bs fs' ∧ Kept h h' (a :: (bs ++ fs)) ∧ (∀ c ∈ fs', c ∈ fs ∨ h.next ≤ c) ∧ Runs [id] S S')
      (fun m fr h' I => drop_step (by omega) hSl htot m fr h' I) k (1 + 9 * total S) fr0 _ (by omega) I0
    refine ⟨h1, S', fs', ?_, A', kp', hfs', hrun⟩
    simp only [fr0, frameOf] at hit
    simp (maxSteps := 4000000) only [evalFn_text F2_drop, evalT_fn, BK.hid, cond_true, cond_false, guess0, List.tail_nil, List.headD_nil, evalS, evalOps, evalOp, evalO, wantedA, opd, opds, optOpd, optInt, putO, frameOf, T.get_set, T.get_nil, Option.map_some, Option.map_none, Nat.reduceEqDiff, if_true, if_false, reduceIte, reduceCtorEq, Nat.reduceAdd, resA, oneOrTuple, binA, binInt, eqA, lenA, capA, unA, partA, partsA, fillA_nil, sliceA, bounds_none, bounds_lo, bounds_hi, bounds_lohi, evalDreg_false, List.take_succ_cons, List.take_zero, List.take_nil, List.drop_zero, List.drop_succ_cons, List.drop_nil, AV.beq, eq_self, hoist, evalD, O.cls, readsOk, List.tail_cons, List.headD_cons, List.nil_append, List.cons_append, List.getLast?_cons_cons, List.getLast?_singleton, Nat.sub_zero, Int.toNat_natCast, ite_self, Nat.add_zero, Nat.zero_add, Nat.zero_mul, Option.isNone_none, Option.isNone_some, Option.isSome_none, Option.isSome_some, Int.reduceBEq, Int.reduceBNe, Int.reduceLT, Int.reduceLE, Int.reduceGT, Int.reduceGE, Int.reduceEq, decide_true, decide_false, Bool.not_true, Bool.not_false, Int.reduceMul, Int.reduceAdd, Int.reduceSub, Int.reduceToNat, Nat.reduceMul, Nat.reduceSub, Nat.reduceLT, Nat.reduceLeDiff, beq_self_eq_true, bne_self_eq_false, Bool.true_beq, Bool.false_beq, ne_eq, not_true_eq_false, not_false_eq_true, Bool.false_eq_true, Bool.or_self, or_self, AV.cells, AV.one, List.all_cons, List.all_nil, Bool.and_true, Bool.true_and, List.length_cons, List.length_nil, splice, List.set_cons_zero, List.set_cons_succ, Nat.le_refl, Nat.reduceLeDiff, iter_succ, readA, readK, loadA, List.getElem?_cons_zero, List.getElem?_cons_succ, Bool.and_self, and_self, and_true, true_and, s18, eslot, f1, hit]

end Go.Proofs.Ytchffjnmkpedkaa
