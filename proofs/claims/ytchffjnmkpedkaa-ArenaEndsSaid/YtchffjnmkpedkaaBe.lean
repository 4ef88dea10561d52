/-
  The arena: ArenaStays' loop. Own work of this session.
-/
import Derived.Test.YtchffjnmkpedkaaBd
set_option linter.unusedSectionVars false
set_option linter.unusedSimpArgs false
set_option linter.unusedVariables false
namespace Go.Proofs.Ytchffjnmkpedkaa
set_option linter.unusedSectionVars false
set_option linter.unusedSimpArgs false
set_option linter.unusedVariables false
open Go.Lite Go.RowKit Go.Lite.Arena
set_option maxHeartbeats 4000000
set_option maxRecDepth 10000

theorem kids_eq (m : Nd) : flatEq [.int .i64, .int .i64, .int .i64, .int .i64, .int .i64, .int .i64, .int .i64, .int .i64] (m.kids.map (AV.int .i64)) (m.kids.map (AV.int .i64)) = some true := by
  obtain ⟨leaf, kids, vals, hk, hv⟩ := m
  match kids, hk with
  | [_, _, _, _, _, _, _, _], _ => simp [flatEq]
theorem vals_eq (m : Nd) : flatEq [.int .i64, .bool, .int .i64, .bool, .int .i64, .bool, .int .i64, .bool, .int .i64, .bool, .int .i64, .bool, .int .i64, .bool, .int .i64, .bool] (m.vals.flatMap entC) (m.vals.flatMap entC) = some true := by
  obtain ⟨leaf, kids, vals, hk, hv⟩ := m
  match vals, hv with
  | [_, _, _, _, _, _, _, _], _ => simp [flatEq, entC]

section
variable {k : Nat} {h : Hp} {fr : Fr}

theorem eB3_ok {F : FuncId → Option Def} {a b c : Nat} {id : Int} {m : Nd} {r : Int} (g5 : fr.get 5 = some (.ptr (some (a, 0)))) (g8 : fr.get 8 = some (.int .i64 id)) (g10 : fr.get 10 = some (.ptr (some (c, 0)))) (g14 : fr.get 14 = some (.ptr (some (b, 0)))) (g15 : fr.get 15 = some (.int .i64 0))
    (hb : h.get b = some ⟨nodeC m, .own⟩) (hc : h.get c = some ⟨nodeC m, .own⟩) (e1 : evalFn F k 22 [.ptr (some (a, 0)), .int .i64 id] h = some (.int .i64 r, h)) (hr : 1 ≤ r) :
    ∃ fr', evalS (evalT F k) k eB3 fr h = some (.normal, fr', h) ∧ ∀ t, t < 13 → fr'.get t = fr.get t := by
  have b0 : h.cell (b, 0) = some (.bool m.leaf) := by rw [Hp.cell_at hb rfl]; rfl
  have b1 : h.cells (b, 1) 8 = some (m.kids.map (AV.int .i64)) := by rw [Hp.cells_at hb rfl (by rw [nodeC_len]; omega), nodeC_kids]
  have b2 : h.cells (b, 9) 16 = some (m.vals.flatMap entC) := by rw [Hp.cells_at hb rfl (by rw [nodeC_len]; omega), nodeC_vals]
  have c0 : h.cell (c, 0) = some (.bool m.leaf) := by rw [Hp.cell_at hc rfl]; rfl
  have c1 : h.cells (c, 1) 8 = some (m.kids.map (AV.int .i64)) := by rw [Hp.cells_at hc rfl (by rw [nodeC_len]; omega), nodeC_kids]
  have c2 : h.cells (c, 9) 16 = some (m.vals.flatMap entC) := by rw [Hp.cells_at hc rfl (by rw [nodeC_len]; omega), nodeC_vals]
  have q1 := kids_eq m
  have q2 := vals_eq m
  have q3 : decide (r < 1) = false := by simp <;> omega
  refine ⟨_, (by simp (maxSteps := 4000000) only [eB3, eB2, eB1, eB, S.fst, S.snd, S.inn, evalT_fn, BK.hid, cond_true, cond_false, guess0, List.tail_nil, List.headD_nil, evalS, evalOps, evalOp, evalO, wantedA, opd, opds, optOpd, optInt, putO, frameOf, T.get_set, T.get_nil, Option.map_some, Option.map_none, Nat.reduceEqDiff, if_true, if_false, reduceIte, reduceCtorEq, Nat.reduceAdd, resA, oneOrTuple, binA, binInt, eqA, lenA, capA, unA, partA, partsA, fillA_nil, sliceA, bounds_none, bounds_lo, bounds_hi, bounds_lohi, evalDreg_false, List.take_succ_cons, List.take_zero, List.take_nil, List.drop_zero, List.drop_succ_cons, List.drop_nil, AV.beq, eq_self, hoist, evalD, O.cls, readsOk, List.tail_cons, List.headD_cons, List.nil_append, List.cons_append, List.getLast?_cons_cons, List.getLast?_singleton, Nat.sub_zero, Int.toNat_natCast, ite_self, Nat.add_zero, Nat.zero_add, Nat.zero_mul, Option.isNone_none, Option.isNone_some, Option.isSome_none, Option.isSome_some, Int.reduceBEq, Int.reduceBNe, Int.reduceLT, Int.reduceLE, Int.reduceGT, Int.reduceGE, Int.reduceEq, decide_true, decide_false, Bool.not_true, Bool.not_false, Int.reduceMul, Int.reduceAdd, Int.reduceSub, Int.reduceToNat, Nat.reduceMul, Nat.reduceSub, Nat.reduceLT, Nat.reduceLeDiff, beq_self_eq_true, bne_self_eq_false, Bool.true_beq, Bool.false_beq, ne_eq, not_true_eq_false, not_false_eq_true, Bool.false_eq_true, Bool.or_self, or_self, AV.cells, AV.one, List.all_cons, List.all_nil, Bool.and_true, Bool.true_and, List.length_cons, List.length_nil, splice, List.set_cons_zero, List.set_cons_succ, Nat.le_refl, Nat.reduceLeDiff, iter_succ, readA, readK, loadA, List.getElem?_cons_zero, List.getElem?_cons_succ, Bool.and_self, and_self, and_true, true_and, s4_l0, g5, g8, g10, g14, g15, b0, b1, b2, c0, c1, c2, q1, q2, q3, e1]; rfl), fun t ht => ?_⟩
  have ne : ∀ j, 13 ≤ j → ¬ t = j := fun j hj => by omega
  simp only [T.get_set, ne _ (show 13 ≤ 86 by omega), ne _ (show 13 ≤ 87 by omega), ne _ (show 13 ≤ 88 by omega), ne _ (show 13 ≤ 89 by omega), ne _ (show 13 ≤ 90 by omega), ne _ (show 13 ≤ 91 by omega), ne _ (show 13 ≤ 92 by omega), ne _ (show 13 ≤ 93 by omega), ne _ (show 13 ≤ 94 by omega), ne _ (show 13 ≤ 95 by omega), ne _ (show 13 ≤ 96 by omega), ne _ (show 13 ≤ 97 by omega), ne _ (show 13 ≤ 98 by omega), ne _ (show 13 ≤ 99 by omega), ne _ (show 13 ≤ 100 by omega), ne _ (show 13 ≤ 101 by omega), ne _ (show 13 ≤ 102 by omega), ne _ (show 13 ≤ 103 by omega), ne _ (show 13 ≤ 104 by omega), ne _ (show 13 ≤ 105 by omega), ne _ (show 13 ≤ 106 by omega), ne _ (show 13 ≤ 107 by omega), ne _ (show 13 ≤ 108 by omega), ne _ (show 13 ≤ 109 by omega), ne _ (show 13 ≤ 110 by omega), ne _ (show 13 ≤ 111 by omega), ne _ (show 13 ≤ 112 by omega), ne _ (show 13 ≤ 113 by omega), ne _ (show 13 ≤ 114 by omega), if_false]

/-- One act, whatever it is. -/
theorem act_step {a b : Nat} {x : ActV} {id : Int} {m : Nd} {i : Nat} {S : St} {bs fs : List Nat} (hk : 6000 < k) (hi : i < 62) (A : AAt h a 60 S bs fs) (I : Stays id m i S) (g5 : fr.get 5 = some (.ptr (some (a, 0)))) (g8 : fr.get 8 = some (.int .i64 id)) (g13 : fr.get 13 = some (.ptr (some (b, 0)))) (hb : h.get b = some ⟨actC x, .own⟩) :
    ∃ fr' h' S' bs' fs', evalS (evalT F2 k) k eB1.fst fr h = some (.normal, fr', h') ∧ (∀ t, t < 13 → fr'.get t = fr.get t) ∧ AAt h' a 60 S' bs' fs' ∧ Kept h h' (a :: (bs ++ fs)) ∧ (∀ c ∈ a :: (bs' ++ fs'), c ∈ a :: (bs ++ fs) ∨ h.next ≤ c) ∧ Stays id m (i + 1) S' := by
  have hl := I.len
  have ht := I.tot
  by_cases hm : x.kind.tmod 3 = 0
  · obtain ⟨h1, e1, k1⟩ := node_ok (n := k) (by omega) (h := h) x
    obtain ⟨h2, e2, k2⟩ := given_ok (n := k) (by omega) (h := h1) (actNd x)
    have k12 : Kept h h2 [] := k1.trans k2 (by simp)
    have A2 : AAt h2 a 60 S bs fs := A.kept k12 (by simp)
    obtain ⟨m1, m2, m3⟩ := make_ok (n := k) A2 (by omega) (by omega) (by omega) (actNd x)
    have ext : ∀ {h3 : Hp} {l : List Nat}, Kept h2 h3 l → Kept h h3 l := fun {h3 l} k3 => ⟨Nat.le_trans k12.1 k3.1, fun c hc hcl => by rw [k3.2 c (Nat.lt_of_lt_of_le hc k12.1) hcl]; exact k12.2 c hc (by simp)⟩
    cases hall : (norm (actNd x)).kids.all (kidOk S) with
    | false =>
      obtain ⟨h3, e3, A3, k3⟩ := m1 hall
      obtain ⟨fr', e, kf⟩ := eB1_make (F := F2) g5 g13 hb hm e1 e2 e3
      exact ⟨fr', h3, S, bs, fs, e, kf, A3, ⟨(ext k3).1, fun c hc _ => (ext k3).2 c hc (by simp)⟩, fun c hc => .inl hc, I.mono⟩
    | true =>
      by_cases hu : (60 : Int) ≤ (S.length : Int) - (freeOf S).length
      · obtain ⟨h3, e3, A3, k3⟩ := m2 hall hu
        obtain ⟨fr', e, kf⟩ := eB1_make (F := F2) g5 g13 hb hm e1 e2 e3
        exact ⟨fr', h3, S, bs, fs, e, kf, A3, ⟨(ext k3).1, fun c hc _ => (ext k3).2 c hc (by simp)⟩, fun c hc => .inl hc, I.mono⟩
      · obtain ⟨h3, id', S1, b', e3, hnew, A3, k3, hb'⟩ := m3 hall hu
        obtain ⟨fr', e, kf⟩ := eB1_make (F := F2) g5 g13 hb hm e1 e2 e3
        refine ⟨fr', h3, _, [b'], fs, e, kf, A3, ext k3, fun c hc => ?_, I.make hnew hall⟩
        have := k12.1
        simp only [List.cons_append, List.nil_append, List.mem_cons] at hc
        rcases hc with rfl | rfl | hc
        · exact .inl (by simp)
        · rcases hb' with e | e
          · exact .inl (by simp [e])
          · exact .inr (by omega)
        · exact .inl (by simp [hc])
  · by_cases hx : x.n = id
    · obtain ⟨fr', e, kf⟩ := eB1_none (F := F2) (k := k) g8 g13 hb hm hx
      exact ⟨fr', h, S, bs, fs, e, kf, A, Kept.refl _ _, fun c hc => .inl hc, I.mono⟩
    · obtain ⟨d1, d2⟩ := drop_ok (n := k) A (by omega) (by omega) x.n
      by_cases hz : rf S x.n = 0
      · obtain ⟨fr', e, kf⟩ := eB1_drop (F := F2) g5 g8 g13 hb hm hx (d1 hz)
        exact ⟨fr', h, S, bs, fs, e, kf, A, Kept.refl _ _, fun c hc => .inl hc, I.mono⟩
      · obtain ⟨h', S', fs', e1, A', k', hf', hr⟩ := d2 hz
        obtain ⟨fr', e, kf⟩ := eB1_drop (F := F2) g5 g8 g13 hb hm hx e1
        refine ⟨fr', h', S', bs, fs', e, kf, A', k', fun c hc => ?_, I.drop hx hr⟩
        simp only [List.mem_cons, List.mem_append] at hc ⊢
        rcases hc with rfl | hc | hc
        · exact .inl (.inl rfl)
        · exact .inl (.inr (.inl hc))
        · exact (hf' c hc).imp (fun e => .inr (.inr e)) (fun e => e)

/-- Between two rounds of ArenaStays' loop. -/
def StaI (acts : List ActV) (base : Option (Nat × Nat)) (cap : Cap) (q a wb : Nat) (id : Int) (m : Nd) (n : Nat) (fr : Fr) (h : Hp) : Prop :=
  ∃ (i : Nat) (S : St) (bs fs : List Nat), n = 60 - i ∧ i ≤ 60 ∧ fr.get 1 = some (.slice base acts.length cap) ∧ fr.get 5 = some (.ptr (some (a, 0))) ∧ fr.get 8 = some (.int .i64 id) ∧ fr.get 10 = some (.ptr (some (wb, 0))) ∧ fr.get 12 = some (.int .i64 i) ∧
    AAt h a 60 S bs fs ∧ Stays id m (i + 1) S ∧ h.get wb = some ⟨nodeC m, .own⟩ ∧ wb < h.next ∧ wb ∉ a :: (bs ++ fs) ∧ (acts ≠ [] → base = some (q, 0) ∧ h.get q = some ⟨acts.flatMap actC, .ro⟩ ∧ q < h.next ∧ q ∉ a :: (bs ++ fs))

theorem sta_step {acts : List ActV} {base : Option (Nat × Nat)} {cap : Cap} {q a wb : Nat} {id : Int} {m : Nd} (hk : 6000 < k) (n : Nat) (fr : Fr) (h : Hp) (I : StaI acts base cap q a wb id m n fr h) :
    (∃ n' fr' h', evalS (evalT F2 k) k s4_l0 fr h = some (.normal, fr', h') ∧ n' < n ∧ StaI acts base cap q a wb id m n' fr' h') ∨
    (∃ x fr' h', evalS (evalT F2 k) k s4_l0 fr h = some (x, fr', h') ∧ x ≠ .normal ∧ x = .exit 0) := by
  obtain ⟨i, S, bs, fs, rfl, hi, g1, g5, g8, g10, g12, A, J, hw, hwn, hwa, hq⟩ := I
  by_cases hlt : i < acts.length ∧ i < 60
  · left
    obtain ⟨hl, h60⟩ := hlt
    obtain ⟨rfl, hq1, hqn, hqa⟩ := hq (by intro e; subst e; simp at hl)
    have hx := List.getElem?_eq_getElem hl
    generalize acts[i]'hl = x at hx
    have hle : i * 12 + 12 ≤ acts.length * 12 := by
      have := Nat.mul_le_mul_right 12 (show i + 1 ≤ acts.length from hl)
      omega
    have hc : h.cells (q, 0 + i * 12) 12 = some (actC x) := by
      rw [Nat.zero_add, Hp.cells_at hq1 rfl (by rw [flat_length actC_len]; omega)]
      have := flat_cells actC_len acts i 0 12 x hx (by omega)
      rw [Nat.add_zero] at this
      rw [this, List.drop_zero, List.take_of_length_le (by rw [actC_len]; omega)]
    obtain ⟨fr1, e1, k1⟩ := eA_more (k := k) (h := h) (call := evalT F2 k) g1 g12 hl h60
    obtain ⟨fr2, e2, s13, k2⟩ := eB_ok (k := k) (h := h) (fr := fr1) (call := evalT F2 k) (by rw [k1 1 (by omega)]; exact g1) (by rw [k1 12 (by omega)]; exact g12) hl hc
    have kp1 : Kept h (h.new ⟨actC x, .own⟩) [] := ⟨by simp, fun c hc _ => get_new_ne hc _⟩
    have A1 : AAt (h.new ⟨actC x, .own⟩) a 60 S bs fs := A.kept kp1 (by simp)
    obtain ⟨fr3, h3, S', bs', fs', e3, k3, A3, kp3, hbl, J3⟩ := act_step (k := k) (h := h.new ⟨actC x, .own⟩) (fr := fr2) (b := h.next) (x := x) hk (by omega) A1 J (by rw [k2 5 (by omega), k1 5 (by omega)]; exact g5) (by rw [k2 8 (by omega), k1 8 (by omega)]; exact g8) s13 (by rw [Hp.get_new, if_pos rfl])
    have far : ∀ z, z < h.next → z ∉ a :: (bs ++ fs) → h3.get z = h.get z ∧ z < h3.next ∧ z ∉ a :: (bs' ++ fs') := by
      intro z hz hza
      have hn1 : (h.new ⟨actC x, .own⟩).next = h.next + 1 := by simp
      refine ⟨by rw [kp3.2 z (by omega) hza, get_new_ne hz], Nat.lt_of_lt_of_le (by omega) kp3.1, fun hh => ?_⟩
      rcases hbl z hh with e | e
      · exact hza e
      · omega
    obtain ⟨w1, w2, w3⟩ := far wb hwn hwa
    obtain ⟨q1, q2, q3⟩ := far q hqn hqa
    have r5 : fr3.get 5 = some (.ptr (some (a, 0))) := by rw [k3 5 (by omega), k2 5 (by omega), k1 5 (by omega)]; exact g5
    have r8 : fr3.get 8 = some (.int .i64 id) := by rw [k3 8 (by omega), k2 8 (by omega), k1 8 (by omega)]; exact g8
    obtain ⟨⟨sl, fl, hA3, hS3, hF3⟩, hnd3, hlt3, hSl3⟩ := A3
    have A3 : AAt h3 a 60 S' bs' fs' := ⟨⟨sl, fl, hA3, hS3, hF3⟩, hnd3, hlt3, hSl3⟩
    have hrp : rf S' id ≠ 0 := by have := J3.acc; omega
    obtain ⟨_, _, y, _, hy, hat⟩ := rf_pos hrp
    have hym : y.1 = m := by
      have := J3.nd
      unfold ndOf at this
      rw [hat] at this
      simpa using this
    have e4 := (at_ok (n := k) (by omega) hA3 hS3 hSl3 (hlt3 a (by simp)) (fun b hb => hlt3 b (by simp [hb])) id).2 y hat (by rw [hy]; exact hrp)
    rw [hym] at e4
    obtain ⟨fr4, e5, s14, s15, k4⟩ := eB2_ok (F := F2) (k := k) (h := h3) (fr := fr3) r5 r8 e4
    generalize hh5 : (h3.new ⟨nodeC m, .own⟩).new ⟨nodeC m, .own⟩ = h5 at e5
    have kp5 : Kept h3 h5 [] := ⟨by rw [← hh5]; simp <;> omega, fun c hc _ => by rw [← hh5, get_new_ne (by simp <;> omega), get_new_ne hc]⟩
    have A5 : AAt h5 a 60 S' bs' fs' := A3.kept kp5 (by simp)
    obtain ⟨⟨sl5, fl5, hA5, hS5, hF5⟩, hnd5, hlt5, hSl5⟩ := A5
    have A5 : AAt h5 a 60 S' bs' fs' := ⟨⟨sl5, fl5, hA5, hS5, hF5⟩, hnd5, hlt5, hSl5⟩
    have e6 := refs_ok (n := k) (by omega) hA5 hS5 hSl5 id
    have hb5 : h5.get (h3.new ⟨nodeC m, .own⟩).next = some ⟨nodeC m, .own⟩ := by rw [← hh5, Hp.get_new, if_pos rfl]
    have hw5 : h5.get wb = some ⟨nodeC m, .own⟩ := by rw [kp5.2 wb w2 (by simp), w1]; exact hw
    obtain ⟨fr5, e7, k5⟩ := eB3_ok (F := F2) (k := k) (h := h5) (fr := fr4) (m := m) (by rw [k4 5 (by omega)]; exact r5) (by rw [k4 8 (by omega)]; exact r8) (by rw [k4 10 (by omega), k3 10 (by omega), k2 10 (by omega), k1 10 (by omega)]; exact g10) s14 s15 hb5 hw5 e6 (by omega)
    obtain ⟨fr6, e8, s12, k6⟩ := eC_ok (k := k) (h := h5) (fr := fr5) (call := evalT F2 k) (i := i) (by omega) (by rw [k5 12 (by omega), k4 12 (by omega), k3 12 (by omega), k2 12 (by omega), k1 12 (by omega)]; exact g12)
    have all : ∀ t, t < 12 → fr6.get t = fr.get t := fun t ht => by rw [k6 t ht, k5 t (by omega), k4 t (by omega), k3 t (by omega), k2 t (by omega), k1 t (by omega)]
    refine ⟨60 - (i + 1), fr6, h5, ?_, by omega, i + 1, S', bs', fs', rfl, by omega, by rw [all 1 (by omega)]; exact g1, by rw [all 5 (by omega)]; exact g5, by rw [all 8 (by omega)]; exact g8, by rw [all 10 (by omega)]; exact g10, s12, A5, J3, hw5, Nat.lt_of_lt_of_le w2 kp5.1, w3, fun _ => ⟨rfl, ?_, Nat.lt_of_lt_of_le q2 kp5.1, q3⟩⟩
    · rw [e_eq]
      simp only [evalS, e1, e2, e3, e5, e7, e8]
    · rw [kp5.2 q q2 (by simp), q1]; exact hq1
  · right
    obtain ⟨fr', e⟩ := eA_end (k := k) (h := h) (call := evalT F2 k) g1 g12 hlt
    refine ⟨.exit 0, fr', h, ?_, by simp, rfl⟩
    rw [e_eq]
    simp only [evalS, e]

end
end Go.Proofs.Ytchffjnmkpedkaa
