/-
  The arena: ArenaEnds: what it keeps, its loops, whole. Own work of this session.
-/
import Derived.Test.YtchffjnmkpedkaaBg
set_option linter.unusedSectionVars false
set_option linter.unusedSimpArgs false
set_option linter.unusedVariables false
namespace Go.Lite.Arena
set_option linter.unusedSectionVars false
set_option linter.unusedSimpArgs false
set_option linter.unusedVariables false

/-- Parts come ahead of what has them. -/
def Ord (S : St) : Prop := ∀ (j : Nat) (y : Nd × Nat), S[j]? = some y → ∀ k ∈ y.1.kids, k = 0 ∨ (1 ≤ k ∧ k ≤ j)
/-- Each node is asked for by its nodes, and by what is told. -/
def Acc (told : List Int) (S : St) : Prop := ∀ x, x ≠ 0 → rf S x = told.count x + asks S x

structure EndsP (told : List Int) (i : Nat) (S : St) : Prop where
  acc : Acc told S
  ord : Ord S
  full : freeOf S = []
  len : S.length ≤ i
  tot : total S ≤ 9 * i
  tl : told.length ≤ i
  pos : ∀ t ∈ told, 1 ≤ t ∧ t ≤ S.length

theorem EndsP.alive {told : List Int} {i : Nat} {S : St} (I : EndsP told i S) {t : Int} (ht : t ∈ told) : rf S t ≠ 0 := by
  have h1 := I.pos t ht
  have h2 := I.acc t (by omega)
  have h3 := List.count_pos_iff.2 ht
  omega

theorem Ord.upd {S : St} (h : Ord S) (g : Nat → Nat) (k : Int) : Ord (upd g S k) := by
  unfold Arena.upd
  split
  · intro j y hy kk hk
    rw [List.getElem?_modify] at hy
    simp only [Option.map_eq_map, Option.map_eq_some_iff] at hy
    obtain ⟨z, hz, he⟩ := hy
    refine h j z hz kk ?_
    split at he
    · subst he; exact hk
    · subst he; exact hk
  · exact h

theorem Ord.incs {l : List Int} : ∀ {S : St}, Ord S → Ord (incs S l) := by
  induction l with
  | nil => intro S h; exact h
  | cons a l ih =>
    intro S h
    have e : Arena.incs S (a :: l) = Arena.incs (if rf S a = 0 then S else inc S a) l := rfl
    rw [e]
    split
    · exact ih h
    · exact ih (h.upd _ _)

theorem Ord.runs {p : List Int} {S T : St} (h : Runs p S T) : Ord S → Ord T := by
  induction h with
  | nil _ => exact id
  | dead _ _ _ _ _ _ ih => exact ih
  | more _ _ _ _ _ _ ih => exact fun o => ih (o.upd _ _)
  | last _ _ _ _ _ _ ih => exact fun o => ih (o.upd _ _)

theorem freeOf_nil_of {S T : St} (hl : T.length = S.length) (h : ∀ x, rf T x = 0 ↔ rf S x = 0) (hf : freeOf S = []) : freeOf T = [] := by
  rw [List.eq_nil_iff_forall_not_mem]
  intro x hx
  obtain ⟨h1, h2, h3⟩ := mem_freeOf.1 hx
  have : x ∈ freeOf S := mem_freeOf.2 ⟨h1, by rw [← hl]; exact h2, (h x).1 h3⟩
  rw [hf] at this; cases this

/-- A node is made: its parts are told ones. -/
theorem EndsP.make {told : List Int} {i : Nat} {S : St} (I : EndsP told i S) {id : Int} {m : Nd} {S1 : St} (h : NewAt S id m S1) (hk : ∀ k ∈ m.kids, k = 0 ∨ k ∈ told) : EndsP (told ++ [id]) (i + 1) (incs S1 m.kids) := by
  have hok : m.kids.all (kidOk S) = true := by
    rw [List.all_eq_true]
    intro k hm
    rcases hk k hm with e | e
    · simp [kidOk, e]
    · simp [kidOk, I.alive e]
  rcases h with ⟨_, rfl, rfl⟩ | ⟨hid, _, _⟩
  rotate_left
  · rw [I.full] at hid; cases hid
  have hnew : NewAt S ((S.length : Int) + 1) m (S ++ [(m, 1)]) := .inl ⟨I.full, rfl, rfl⟩
  obtain ⟨f1, f2, f3⟩ := incs_facts (S ++ [(m, 1)]) m.kids
  obtain ⟨t1, t2⟩ := new_total hnew
  have h8 := m.hk
  have hl := I.len
  have ht := I.tot
  have hto := I.tl
  refine ⟨fun x hx => ?_, Ord.incs ?_, ?_, by omega, by omega, by simp; omega, fun t ht => ?_⟩
  · have := make_account hnew hok hx (I.acc x hx)
    rw [this, List.count_append, List.count_singleton]
    by_cases e : x = (S.length : Int) + 1
    · subst e; simp
    · rw [if_neg e, if_neg (by simpa using fun hh => e hh.symm)]
  · intro j y hy k hkk
    rw [List.getElem?_append] at hy
    split at hy
    · exact I.ord j y hy k hkk
    · rename_i hj
      have : j = S.length := by
        rcases Nat.lt_or_ge (j - S.length) 1 with hh | hh
        · omega
        · rw [List.getElem?_eq_none (by simpa using hh)] at hy; cases hy
      subst this
      rw [Nat.sub_self] at hy
      simp at hy
      subst hy
      rcases hk k hkk with e | e
      · exact .inl e
      · exact .inr (I.pos k e)
  · exact freeOf_nil_of f1 f3 (freeOf_push S m I.full)
  · rw [f1]
    rcases List.mem_append.1 ht with e | e
    · have := I.pos t e; simp; omega
    · rw [List.mem_singleton] at e; subst e; simp; omega

theorem EndsP.keep {told : List Int} {i : Nat} {S : St} (I : EndsP told i S) {t : Int} (ht : t ∈ told) : EndsP (told ++ [t]) (i + 1) (inc S t) := by
  have hz := I.alive ht
  have hti := total_inc S t
  have hl := I.len
  have htt := I.tot
  have hto := I.tl
  have hln : (inc S t).length = S.length := length_upd _ _ _
  refine ⟨fun x hx => ?_, I.ord.upd _ _, ?_, by rw [hln]; omega, by omega, by simp; omega, fun y hy => ?_⟩
  · rw [rf_inc _ _ _ hz, asks_inc x hz, List.count_append, List.count_singleton, I.acc x hx]
    by_cases e : x = t
    · subst e; simp; omega
    · rw [if_neg e, if_neg (by simpa using fun hh => e hh.symm), Nat.add_zero]
  · refine freeOf_nil_of hln (fun x => ?_) I.full
    rw [rf_inc _ _ _ hz]
    split
    · rename_i e; subst e; constructor
      · intro hh; omega
      · intro hh; exact absurd hh hz
    · exact Iff.rfl
  · rw [hln]
    rcases List.mem_append.1 hy with e | e
    · exact I.pos y e
    · rw [List.mem_singleton] at e; subst e; exact I.pos y ht

theorem EndsP.mono {told : List Int} {i : Nat} {S : St} (I : EndsP told i S) : EndsP told (i + 1) S :=
  ⟨I.acc, I.ord, I.full, by have := I.len; omega, by have := I.tot; omega, by have := I.tl; omega, I.pos⟩

/-- One that was told is dropped. -/
theorem Acc.drop {t : Int} {l : List Int} {S T : St} (h : Acc (t :: l) S) (hr : Runs [t] S T) : Acc l T := by
  intro x hx
  have e := h x hx
  refine hr.account (x := x) (c := l.count x) ?_
  rw [e, List.count_cons, List.count_cons, List.count_nil]
  omega

theorem Acc.alive {t : Int} {l : List Int} {S : St} (h : Acc (t :: l) S) (ht : t ≠ 0) : rf S t ≠ 0 := by
  have := h t ht
  rw [List.count_cons_self] at this
  omega

/-- Nothing is told any more: there are no nodes. -/
theorem Acc.dead {S : St} (h : Acc [] S) (ho : Ord S) : ∀ x, rf S x = 0 := by
  -- from the last place down
  have key : ∀ n j : Nat, S.length ≤ n + j → ∀ y, S[j]? = some y → y.2 = 0 := by
    intro n
    induction n with
    | zero =>
      intro j hj y hy
      rw [List.getElem?_eq_none (by omega)] at hy; cases hy
    | succ n ih =>
      intro j hj y hy
      have hlt : j < S.length := by
        rcases Nat.lt_or_ge j S.length with hh | hh
        · exact hh
        · rw [List.getElem?_eq_none hh] at hy; cases hy
      have hr : rf S ((j : Int) + 1) = y.2 := by
        unfold rf at?
        rw [if_pos (by omega), show ((j : Int) + 1 - 1).toNat = j by omega, hy]; rfl
      have ha := h ((j : Int) + 1) (by omega)
      rw [hr, List.count_nil, Nat.zero_add] at ha
      rw [ha]
      unfold asks
      rw [List.sum_eq_zero_iff_forall_eq_nat]
      intro v hv
      rw [List.mem_map] at hv
      obtain ⟨z, hz, rfl⟩ := hv
      obtain ⟨j2, hj2⟩ := List.getElem?_of_mem hz
      unfold askOf
      split
      · rfl
      · rename_i hz0
        rw [List.count_eq_zero]
        intro hm
        rcases ho j2 z hj2 _ hm with e | e
        · omega
        · exact hz0 (ih j2 (by omega) z hj2)
  intro x
  unfold rf at?
  split
  · cases hq : S[(x - 1).toNat]? with
    | none => rfl
    | some y => exact key S.length _ (by omega) y hq
  · rfl

theorem freeOf_all {S : St} (h : ∀ x, rf S x = 0) : (freeOf S).length = S.length := by
  unfold freeOf
  rw [List.filter_eq_self.2 (fun x _ => by simp [h x])]
  simp

end Go.Lite.Arena
namespace Go.Lite.Arena
/-- The number that an act picks. -/
def pickOf (told : List Int) (k : Int) : Int := if 0 < k.tmod 16 ∧ k.tmod 16 < told.length then told.getD (k.tmod 16).toNat 0 else 0
/-- The act with its first parts picked. -/
def pickAct (told : List Int) (x : ActV) (i : Nat) : ActV := ⟨x.kind, x.n, x.leaf, (x.kids.take i).map (pickOf told) ++ x.kids.drop i, x.val, by have := x.hk; simp; omega⟩
end Go.Lite.Arena
namespace Go.Proofs.Ytchffjnmkpedkaa
set_option linter.unusedSectionVars false
set_option linter.unusedSimpArgs false
set_option linter.unusedVariables false
open Go.Lite Go.RowKit Go.Lite.Arena
set_option maxHeartbeats 4000000
set_option maxRecDepth 10000

/-- What is told, in memory. -/
def ToldAt (h : Hp) (w : AV) (l : List Int) : List Nat → Prop
  | [] => l = [] ∧ w = .slice none 0 (.known 0)
  | [q] => WaitAt h w l q ∧ q < h.next
  | _ => False

theorem told_len {h : Hp} {w : AV} {l : List Int} {qs : List Nat} (hw : ToldAt h w l qs) : ∃ base cap, w = .slice base l.length cap ∧ ∀ i x, l[i]? = some x → ∃ q, base = some (q, 0) ∧ qs = [q] ∧ q < h.next ∧ h.cell (q, i) = some (.int .i64 x) := by
  match qs, hw with
  | [], ⟨e1, e2⟩ => subst e1; exact ⟨none, .known 0, e2, fun i x hx => by simp at hx⟩
  | [q], ⟨hw, hq⟩ =>
    obtain ⟨cap, e⟩ := wait_len hw
    exact ⟨some (q, 0), cap, e, fun i x hx => ⟨q, rfl, rfl, hq, wait_cell hw hx⟩⟩

theorem told_kept {h h' : Hp} {w : AV} {l : List Int} {qs m : List Nat} (hw : ToldAt h w l qs) (k : Kept h h' m) (hm : ∀ q ∈ qs, q ∉ m) : ToldAt h' w l qs := by
  match qs, hw with
  | [], e => exact e
  | [q], ⟨hw, hq⟩ => exact ⟨wait_kept hw (k.2 q hq (hm q (by simp))), Nat.lt_of_lt_of_le hq k.1⟩

theorem told_push {h : Hp} {w : AV} {l : List Int} {qs : List Nat} (hw : ToldAt h w l qs) (hlen : l.length < 1000000000) (x : Int) :
    ∃ w' h' qs', appendA (h.new ⟨[.int .i64 x], .own⟩) 1 8 w (.slice (some (h.next, 0)) 1 (.known 1)) = some (w', h') ∧ ToldAt h' w' (l ++ [x]) qs' ∧ Kept h h' qs ∧ (∀ q ∈ qs', q ∈ qs ∨ h.next ≤ q) := by
  match qs, hw with
  | [], ⟨e1, e2⟩ =>
    subst e1; subst e2
    have hmore : (h.new ⟨[.int .i64 x], .own⟩).cells (h.next, 0) (1 * 1) = some [.int .i64 x] := cells_new rfl
    refine ⟨.slice (some (h.next + 1, 0)) 1 (.more 1), (h.new ⟨[.int .i64 x], .own⟩).new ⟨[.int .i64 x], .grown 1⟩, [h.next + 1], ?_, ⟨⟨.more 1, [], .grown 1, by simp, ?_, .inr ⟨rfl, rfl⟩⟩, by simp⟩, ⟨by simp <;> omega, fun c hc _ => ?_⟩, fun q hq => by simp at hq; exact .inr (by omega)⟩
    · simp only [appendA, lenOfA, firstA, hmore]
      rw [if_neg (by omega), if_pos (by simp [maxLenB])]
      simp only [List.length_nil]
      rw [if_pos (by refine ⟨rfl, ?_, ?_⟩ <;> first | rfl | trivial)]
      simp only [growA]
      rw [if_neg (by omega)]
      rfl
    · rw [Hp.get_new, if_pos (by rfl)]; simp
    · rw [get_new_ne (by simp <;> omega), get_new_ne hc]
  | [q], ⟨hw, hq⟩ =>
    obtain ⟨w', h', q', e, hw', k, hq', hqn⟩ := push_ok hw hq hlen x
    exact ⟨w', h', [q'], e, ⟨hw', hqn⟩, k, fun c hc => by rw [List.mem_singleton] at hc; subst hc; simpa using hq'⟩

theorem pick_set (told : List Int) (x : ActV) (i : Nat) (hi : i < 8) (v : Int) (hv : v = pickOf told (x.kids.getD i 0)) : splice (splice (actC (pickAct told x i)) (3 + i) [.int .i64 0]) (3 + i) [.int .i64 v] = actC (pickAct told x (i + 1)) := by
  obtain ⟨kind, n, leaf, kids, val, hk⟩ := x
  subst hv
  match kids, hk with
  | [_, _, _, _, _, _, _, _], _ =>
    match i, hi with
    | 0, _ => rfl
    | 1, _ => rfl
    | 2, _ => rfl
    | 3, _ => rfl
    | 4, _ => rfl
    | 5, _ => rfl
    | 6, _ => rfl
    | 7, _ => rfl

theorem pick_set0 (told : List Int) (x : ActV) (i : Nat) (hi : i < 8) (hv : 0 = pickOf told (x.kids.getD i 0)) : splice (actC (pickAct told x i)) (3 + i) [.int .i64 0] = actC (pickAct told x (i + 1)) := by
  rw [← pick_set told x i hi 0 hv]
  simp only [splice, List.set_set]

theorem pick_cell (told : List Int) (x : ActV) (i : Nat) (hi : i < 8) : (actC (pickAct told x i))[3 + i]? = some (.int .i64 (x.kids.getD i 0)) := by
  obtain ⟨kind, n, leaf, kids, val, hk⟩ := x
  match kids, hk with
  | [_, _, _, _, _, _, _, _], _ =>
    match i, hi with
    | 0, _ => rfl
    | 1, _ => rfl
    | 2, _ => rfl
    | 3, _ => rfl
    | 4, _ => rfl
    | 5, _ => rfl
    | 6, _ => rfl
    | 7, _ => rfl

/-- Between two rounds of the loop that picks. -/
def PicI (told : List Int) (x : ActV) (b : Nat) (fr0 : Fr) (h0 : Hp) (m : Nat) (fr : Fr) (h : Hp) : Prop :=
  ∃ i : Nat, m = 8 - i ∧ i ≤ 8 ∧ fr.get 8 = some (.int .i64 i) ∧ (∀ t, t < 8 → fr.get t = fr0.get t) ∧ h.next = h0.next ∧ (∀ c, c ≠ b → h.get c = h0.get c) ∧ h.get b = some ⟨actC (pickAct told x i), .own⟩

theorem pic_step {call : Lite.Callee} {k : Nat} {told : List Int} {x : ActV} {b : Nat} {fr0 : Fr} {h0 : Hp} {base : Option (Nat × Nat)} {cap : Cap} (hlen : told.length < 1000000) (g5 : fr0.get 5 = some (.slice base told.length cap)) (g7 : fr0.get 7 = some (.ptr (some (b, 0))))
    (hw : ∀ i y, told[i]? = some y → ∃ q, base = some (q, 0) ∧ q ≠ b ∧ h0.cell (q, i) = some (.int .i64 y)) (m : Nat) (fr : Fr) (h : Hp) (I : PicI told x b fr0 h0 m fr h) :
    (∃ m' fr' h', evalS call k s3_l0 fr h = some (.normal, fr', h') ∧ m' < m ∧ PicI told x b fr0 h0 m' fr' h') ∨
    (∃ y fr' h', evalS call k s3_l0 fr h = some (y, fr', h') ∧ y ≠ .normal ∧ y = .exit 2 ∧ PicI told x b fr0 h0 0 fr' h') := by
  obtain ⟨i, rfl, hi, g8, low, hn, hc, hb⟩ := I
  have f5 : fr.get 5 = some (.slice base told.length cap) := by rw [low 5 (by omega)]; exact g5
  have f7 : fr.get 7 = some (.ptr (some (b, 0))) := by rw [low 7 (by omega)]; exact g7
  by_cases hlt : i < 8
  · left
    have d1 : decide ((i : Int) < 8) = true := by simp <;> omega
    have b1 : 0 ≤ (i : Int) ∧ (i : Int) < ((8 : Nat) : Int) := by omega
    have w8 : IntKind.i64.wrap ((i : Int) + 1) = ((i + 1 : Nat) : Int) := by rw [wrap_id (by omega) (by omega)]; simp
    have c1 : h.cell (b, 3 + i) = some (.int .i64 (x.kids.getD i 0)) := by rw [Hp.cell_at hb rfl]; exact pick_cell told x i hlt
    have w1 := Hp.write_at (i := 3 + i) (vs := [.int .i64 0]) hb rfl (by simp) (by rw [actC_len]; simp; omega) rfl
    generalize hkv : x.kids.getD i 0 = kv at c1
    have fin : ∀ (fr' : Fr), (∀ t, t < 8 → fr'.get t = fr.get t) → ∀ t, t < 8 → fr'.get t = fr0.get t := fun fr' hh t ht => by rw [hh t ht, low t ht]
    by_cases hp : 0 < kv.tmod 16
    · have d2 : decide (kv.tmod 16 > 0) = true := by simp <;> omega
      by_cases hp2 : kv.tmod 16 < told.length
      · have d3 : decide (kv.tmod 16 < (told.length : Int)) = true := by simp <;> omega
        have b2 : 0 ≤ kv.tmod 16 ∧ kv.tmod 16 < (told.length : Int) := by omega
        have hg := List.getElem?_eq_getElem (l := told) (i := (kv.tmod 16).toNat) (by omega)
        generalize hy : told[(kv.tmod 16).toNat]'(by omega) = y at hg
        obtain ⟨q, rfl, hqb, hq⟩ := hw _ _ hg
        have hput : (h.put b ⟨splice (actC (pickAct told x i)) (3 + i) [.int .i64 0], .own⟩).get b = some ⟨splice (actC (pickAct told x i)) (3 + i) [.int .i64 0], .own⟩ := by rw [Hp.get_put, if_pos rfl]
        have c2 : (h.put b ⟨splice (actC (pickAct told x i)) (3 + i) [.int .i64 0], .own⟩).cell (q, (kv.tmod 16).toNat) = some (.int .i64 y) := by
          unfold Hp.cell at hq ⊢
          rw [Hp.get_put, if_neg hqb, hc q hqb]; exact hq
        have w2 := Hp.write_at (i := 3 + i) (vs := [.int .i64 y]) hput rfl (by simp) (by rw [splice_length', actC_len]; simp; omega) rfl
        have hpk : y = pickOf told (x.kids.getD i 0) := by
          rw [hkv]; unfold pickOf; rw [if_pos ⟨hp, hp2⟩, List.getD_eq_getElem?_getD, hg]; rfl
        rw [pick_set told x i hlt y hpk, Hp.put_put] at w2
        clear hput
        generalize splice (actC (pickAct told x i)) (3 + i) [.int .i64 0] = sp at w1 c2 w2
        refine ⟨8 - (i + 1), _, _, (by simp (maxSteps := 4000000) only [evalT_fn, BK.hid, cond_true, cond_false, guess0, List.tail_nil, List.headD_nil, evalS, evalOps, evalOp, evalO, wantedA, opd, opds, optOpd, optInt, putO, frameOf, T.get_set, T.get_nil, Option.map_some, Option.map_none, Nat.reduceEqDiff, if_true, if_false, reduceIte, reduceCtorEq, Nat.reduceAdd, resA, oneOrTuple, binA, binInt, eqA, lenA, capA, unA, partA, partsA, fillA_nil, sliceA, bounds_none, bounds_lo, bounds_hi, bounds_lohi, evalDreg_false, List.take_succ_cons, List.take_zero, List.take_nil, List.drop_zero, List.drop_succ_cons, List.drop_nil, AV.beq, eq_self, hoist, evalD, O.cls, readsOk, List.tail_cons, List.headD_cons, List.nil_append, List.cons_append, List.getLast?_cons_cons, List.getLast?_singleton, Nat.sub_zero, Int.toNat_natCast, ite_self, Nat.add_zero, Nat.zero_add, Nat.zero_mul, Option.isNone_none, Option.isNone_some, Option.isSome_none, Option.isSome_some, Int.reduceBEq, Int.reduceBNe, Int.reduceLT, Int.reduceLE, Int.reduceGT, Int.reduceGE, Int.reduceEq, decide_true, decide_false, Bool.not_true, Bool.not_false, Int.reduceMul, Int.reduceAdd, Int.reduceSub, Int.reduceToNat, Nat.reduceMul, Nat.reduceSub, Nat.reduceLT, Nat.reduceLeDiff, beq_self_eq_true, bne_self_eq_false, Bool.true_beq, Bool.false_beq, ne_eq, not_true_eq_false, not_false_eq_true, Bool.false_eq_true, Bool.or_self, or_self, AV.cells, AV.one, List.all_cons, List.all_nil, Bool.and_true, Bool.true_and, List.length_cons, List.length_nil, splice, List.set_cons_zero, List.set_cons_succ, Nat.le_refl, Nat.reduceLeDiff, iter_succ, readA, readK, loadA, List.getElem?_cons_zero, List.getElem?_cons_succ, Bool.and_self, and_self, and_true, true_and, s3_l0, f5, f7, g8, d1, b1, c1, w1, d2, d3, b2, c2, w2, w8, Nat.mul_one]; rfl), by omega, i + 1, rfl, by omega, by simp [T.get_set], fin _ (fun t ht => ?_), by simpa using hn, fun c hcb => ?_, ?_⟩
        · have ne : ∀ j, 8 ≤ j → ¬ t = j := fun j hj => by omega
          simp only [T.get_set, ne 8 (by omega), ne 9 (by omega), ne 38 (by omega), ne 39 (by omega), ne 40 (by omega), ne 41 (by omega), ne 42 (by omega), ne 43 (by omega), ne 44 (by omega), ne 45 (by omega), ne 46 (by omega), ne 47 (by omega), ne 48 (by omega), ne 49 (by omega), ne 50 (by omega), ne 51 (by omega), ne 52 (by omega), ne 53 (by omega), ne 54 (by omega), ne 55 (by omega), ne 56 (by omega), ne 57 (by omega), ne 58 (by omega), ne 59 (by omega), ne 60 (by omega), ne 61 (by omega), ne 62 (by omega), ne 63 (by omega), ne 64 (by omega), if_false]
        · rw [Hp.get_put, if_neg hcb]; exact hc c hcb
        · rw [Hp.get_put, if_pos rfl]
      · have d3 : decide (kv.tmod 16 < (told.length : Int)) = false := by simp <;> omega
        have hpk : 0 = pickOf told (x.kids.getD i 0) := by rw [hkv]; unfold pickOf; rw [if_neg (fun hh => hp2 hh.2)]
        rw [pick_set0 told x i hlt hpk] at w1
        refine ⟨8 - (i + 1), _, _, (by simp (maxSteps := 4000000) only [evalT_fn, BK.hid, cond_true, cond_false, guess0, List.tail_nil, List.headD_nil, evalS, evalOps, evalOp, evalO, wantedA, opd, opds, optOpd, optInt, putO, frameOf, T.get_set, T.get_nil, Option.map_some, Option.map_none, Nat.reduceEqDiff, if_true, if_false, reduceIte, reduceCtorEq, Nat.reduceAdd, resA, oneOrTuple, binA, binInt, eqA, lenA, capA, unA, partA, partsA, fillA_nil, sliceA, bounds_none, bounds_lo, bounds_hi, bounds_lohi, evalDreg_false, List.take_succ_cons, List.take_zero, List.take_nil, List.drop_zero, List.drop_succ_cons, List.drop_nil, AV.beq, eq_self, hoist, evalD, O.cls, readsOk, List.tail_cons, List.headD_cons, List.nil_append, List.cons_append, List.getLast?_cons_cons, List.getLast?_singleton, Nat.sub_zero, Int.toNat_natCast, ite_self, Nat.add_zero, Nat.zero_add, Nat.zero_mul, Option.isNone_none, Option.isNone_some, Option.isSome_none, Option.isSome_some, Int.reduceBEq, Int.reduceBNe, Int.reduceLT, Int.reduceLE, Int.reduceGT, Int.reduceGE, Int.reduceEq, decide_true, decide_false, Bool.not_true, Bool.not_false, Int.reduceMul, Int.reduceAdd, Int.reduceSub, Int.reduceToNat, Nat.reduceMul, Nat.reduceSub, Nat.reduceLT, Nat.reduceLeDiff, beq_self_eq_true, bne_self_eq_false, Bool.true_beq, Bool.false_beq, ne_eq, not_true_eq_false, not_false_eq_true, Bool.false_eq_true, Bool.or_self, or_self, AV.cells, AV.one, List.all_cons, List.all_nil, Bool.and_true, Bool.true_and, List.length_cons, List.length_nil, splice, List.set_cons_zero, List.set_cons_succ, Nat.le_refl, Nat.reduceLeDiff, iter_succ, readA, readK, loadA, List.getElem?_cons_zero, List.getElem?_cons_succ, Bool.and_self, and_self, and_true, true_and, s3_l0, f5, f7, g8, d1, b1, c1, w1, d2, d3, w8, Nat.mul_one]; rfl), by omega, i + 1, rfl, by omega, by simp [T.get_set], fin _ (fun t ht => ?_), by simpa using hn, fun c hcb => ?_, ?_⟩
        · have ne : ∀ j, 8 ≤ j → ¬ t = j := fun j hj => by omega
          simp only [T.get_set, ne 8 (by omega), ne 9 (by omega), ne 38 (by omega), ne 39 (by omega), ne 40 (by omega), ne 41 (by omega), ne 42 (by omega), ne 43 (by omega), ne 44 (by omega), ne 45 (by omega), ne 46 (by omega), ne 47 (by omega), ne 48 (by omega), ne 49 (by omega), ne 50 (by omega), ne 51 (by omega), ne 52 (by omega), ne 53 (by omega), ne 54 (by omega), ne 55 (by omega), ne 56 (by omega), ne 57 (by omega), if_false]
        · rw [Hp.get_put, if_neg hcb]; exact hc c hcb
        · rw [Hp.get_put, if_pos rfl]
    · have d2 : decide (kv.tmod 16 > 0) = false := by simp <;> omega
      have hpk : 0 = pickOf told (x.kids.getD i 0) := by rw [hkv]; unfold pickOf; rw [if_neg (fun hh => hp hh.1)]
      rw [pick_set0 told x i hlt hpk] at w1
      refine ⟨8 - (i + 1), _, _, (by simp (maxSteps := 4000000) only [evalT_fn, BK.hid, cond_true, cond_false, guess0, List.tail_nil, List.headD_nil, evalS, evalOps, evalOp, evalO, wantedA, opd, opds, optOpd, optInt, putO, frameOf, T.get_set, T.get_nil, Option.map_some, Option.map_none, Nat.reduceEqDiff, if_true, if_false, reduceIte, reduceCtorEq, Nat.reduceAdd, resA, oneOrTuple, binA, binInt, eqA, lenA, capA, unA, partA, partsA, fillA_nil, sliceA, bounds_none, bounds_lo, bounds_hi, bounds_lohi, evalDreg_false, List.take_succ_cons, List.take_zero, List.take_nil, List.drop_zero, List.drop_succ_cons, List.drop_nil, AV.beq, eq_self, hoist, evalD, O.cls, readsOk, List.tail_cons, List.headD_cons, List.nil_append, List.cons_append, List.getLast?_cons_cons, List.getLast?_singleton, Nat.sub_zero, Int.toNat_natCast, ite_self, Nat.add_zero, Nat.zero_add, Nat.zero_mul, Option.isNone_none, Option.isNone_some, Option.isSome_none, Option.isSome_some, Int.reduceBEq, Int.reduceBNe, Int.reduceLT, Int.reduceLE, Int.reduceGT, Int.reduceGE, Int.reduceEq, decide_true, decide_false, Bool.not_true, Bool.not_false, Int.reduceMul, Int.reduceAdd, Int.reduceSub, Int.reduceToNat, Nat.reduceMul, Nat.reduceSub, Nat.reduceLT, Nat.reduceLeDiff, beq_self_eq_true, bne_self_eq_false, Bool.true_beq, Bool.false_beq, ne_eq, not_true_eq_false, not_false_eq_true, Bool.false_eq_true, Bool.or_self, or_self, AV.cells, AV.one, List.all_cons, List.all_nil, Bool.and_true, Bool.true_and, List.length_cons, List.length_nil, splice, List.set_cons_zero, List.set_cons_succ, Nat.le_refl, Nat.reduceLeDiff, iter_succ, readA, readK, loadA, List.getElem?_cons_zero, List.getElem?_cons_succ, Bool.and_self, and_self, and_true, true_and, s3_l0, f5, f7, g8, d1, b1, c1, w1, d2, w8, Nat.mul_one]; rfl), by omega, i + 1, rfl, by omega, by simp [T.get_set], fin _ (fun t ht => ?_), by simpa using hn, fun c hcb => ?_, ?_⟩
      · have ne : ∀ j, 8 ≤ j → ¬ t = j := fun j hj => by omega
        simp only [T.get_set, ne 8 (by omega), ne 9 (by omega), ne 38 (by omega), ne 39 (by omega), ne 40 (by omega), ne 41 (by omega), ne 42 (by omega), ne 43 (by omega), ne 44 (by omega), ne 45 (by omega), ne 46 (by omega), ne 47 (by omega), ne 48 (by omega), ne 49 (by omega), ne 50 (by omega), ne 51 (by omega), ne 52 (by omega), ne 53 (by omega), ne 54 (by omega), ne 55 (by omega), ne 56 (by omega), ne 57 (by omega), if_false]
      · rw [Hp.get_put, if_neg hcb]; exact hc c hcb
      · rw [Hp.get_put, if_pos rfl]
  · right
    obtain rfl : i = 8 := by omega
    have d1 : decide (((8 : Nat) : Int) < 8) = false := rfl
    refine ⟨_, _, h, (by simp (maxSteps := 4000000) only [evalT_fn, BK.hid, cond_true, cond_false, guess0, List.tail_nil, List.headD_nil, evalS, evalOps, evalOp, evalO, wantedA, opd, opds, optOpd, optInt, putO, frameOf, T.get_set, T.get_nil, Option.map_some, Option.map_none, Nat.reduceEqDiff, if_true, if_false, reduceIte, reduceCtorEq, Nat.reduceAdd, resA, oneOrTuple, binA, binInt, eqA, lenA, capA, unA, partA, partsA, fillA_nil, sliceA, bounds_none, bounds_lo, bounds_hi, bounds_lohi, evalDreg_false, List.take_succ_cons, List.take_zero, List.take_nil, List.drop_zero, List.drop_succ_cons, List.drop_nil, AV.beq, eq_self, hoist, evalD, O.cls, readsOk, List.tail_cons, List.headD_cons, List.nil_append, List.cons_append, List.getLast?_cons_cons, List.getLast?_singleton, Nat.sub_zero, Int.toNat_natCast, ite_self, Nat.add_zero, Nat.zero_add, Nat.zero_mul, Option.isNone_none, Option.isNone_some, Option.isSome_none, Option.isSome_some, Int.reduceBEq, Int.reduceBNe, Int.reduceLT, Int.reduceLE, Int.reduceGT, Int.reduceGE, Int.reduceEq, decide_true, decide_false, Bool.not_true, Bool.not_false, Int.reduceMul, Int.reduceAdd, Int.reduceSub, Int.reduceToNat, Nat.reduceMul, Nat.reduceSub, Nat.reduceLT, Nat.reduceLeDiff, beq_self_eq_true, bne_self_eq_false, Bool.true_beq, Bool.false_beq, ne_eq, not_true_eq_false, not_false_eq_true, Bool.false_eq_true, Bool.or_self, or_self, AV.cells, AV.one, List.all_cons, List.all_nil, Bool.and_true, Bool.true_and, List.length_cons, List.length_nil, splice, List.set_cons_zero, List.set_cons_succ, Nat.le_refl, Nat.reduceLeDiff, iter_succ, readA, readK, loadA, List.getElem?_cons_zero, List.getElem?_cons_succ, Bool.and_self, and_self, and_true, true_and, s3_l0, g8, d1]; rfl), by simp, rfl, 8, rfl, by omega, by simp [T.get_set, g8], fun t ht => ?_, hn, hc, hb⟩
    have ne : ∀ j, 8 ≤ j → ¬ t = j := fun j hj => by omega
    simp only [T.get_set, ne 38 (by omega), ne 39 (by omega), if_false]
    exact low t ht

end Go.Proofs.Ytchffjnmkpedkaa
namespace Go.Proofs.Ytchffjnmkpedkaa
set_option linter.unusedSectionVars false
set_option linter.unusedSimpArgs false
set_option linter.unusedVariables false
open Go.Lite Go.RowKit Go.Lite.Arena
set_option maxHeartbeats 4000000
set_option maxRecDepth 10000

theorem F2_ends : F2 3 = some (.text s3) := rfl

def hA : S := s3_l1.fst
def hB : S := s3_l1.snd.fst.inn
def hC : S := hB.snd
def hD : S := hC.snd
def hE : S := hD.snd
def hF : S := hE.snd
def hG : S := hF.snd
def hH : S := s3_l1.snd.snd
theorem h_eq : s3_l1 = .seq hA (.seq (.block 1 (.seq hB.fst (.seq (.seq hC.fst.fst (.block 2 (.loop s3_l0))) (.seq hD.fst (.seq hE.fst (.seq hF.fst hG)))))) hH) := rfl

section
variable {k : Nat} {h : Hp} {fr : Fr}

theorem hA_more {base : Option (Nat × Nat)} {len : Nat} {cap : Cap} {i : Nat} (g0 : fr.get 0 = some (.slice base len cap)) (g6 : fr.get 6 = some (.int .i64 i)) (hi : i < len) (h60 : i < 60) {call : Lite.Callee} : ∃ fr', evalS call k hA fr h = some (.normal, fr', h) ∧ ∀ t, t < 14 → fr'.get t = fr.get t := by
  have b1 : decide ((i : Int) < (len : Int)) = true := by simp <;> omega
  have b2 : decide ((i : Int) < 60) = true := by simp <;> omega
  refine ⟨_, (by simp (maxSteps := 4000000) only [hA, S.fst, evalT_fn, BK.hid, cond_true, cond_false, guess0, List.tail_nil, List.headD_nil, evalS, evalOps, evalOp, evalO, wantedA, opd, opds, optOpd, optInt, putO, frameOf, T.get_set, T.get_nil, Option.map_some, Option.map_none, Nat.reduceEqDiff, if_true, if_false, reduceIte, reduceCtorEq, Nat.reduceAdd, resA, oneOrTuple, binA, binInt, eqA, lenA, capA, unA, partA, partsA, fillA_nil, sliceA, bounds_none, bounds_lo, bounds_hi, bounds_lohi, evalDreg_false, List.take_succ_cons, List.take_zero, List.take_nil, List.drop_zero, List.drop_succ_cons, List.drop_nil, AV.beq, eq_self, hoist, evalD, O.cls, readsOk, List.tail_cons, List.headD_cons, List.nil_append, List.cons_append, List.getLast?_cons_cons, List.getLast?_singleton, Nat.sub_zero, Int.toNat_natCast, ite_self, Nat.add_zero, Nat.zero_add, Nat.zero_mul, Option.isNone_none, Option.isNone_some, Option.isSome_none, Option.isSome_some, Int.reduceBEq, Int.reduceBNe, Int.reduceLT, Int.reduceLE, Int.reduceGT, Int.reduceGE, Int.reduceEq, decide_true, decide_false, Bool.not_true, Bool.not_false, Int.reduceMul, Int.reduceAdd, Int.reduceSub, Int.reduceToNat, Nat.reduceMul, Nat.reduceSub, Nat.reduceLT, Nat.reduceLeDiff, beq_self_eq_true, bne_self_eq_false, Bool.true_beq, Bool.false_beq, ne_eq, not_true_eq_false, not_false_eq_true, Bool.false_eq_true, Bool.or_self, or_self, AV.cells, AV.one, List.all_cons, List.all_nil, Bool.and_true, Bool.true_and, List.length_cons, List.length_nil, splice, List.set_cons_zero, List.set_cons_succ, Nat.le_refl, Nat.reduceLeDiff, iter_succ, readA, readK, loadA, List.getElem?_cons_zero, List.getElem?_cons_succ, Bool.and_self, and_self, and_true, true_and, s3_l1, g0, g6, b1, b2]; rfl), fun t ht => ?_⟩
  have ne : ∀ j, 14 ≤ j → ¬ t = j := fun j hj => by omega
  simp only [T.get_set, ne 24 (by omega), ne 25 (by omega), ne 26 (by omega), ne 27 (by omega), ne 28 (by omega), ne 29 (by omega), ne 30 (by omega), ne 31 (by omega), if_false]

theorem hA_end {base : Option (Nat × Nat)} {len : Nat} {cap : Cap} {i : Nat} (g0 : fr.get 0 = some (.slice base len cap)) (g6 : fr.get 6 = some (.int .i64 i)) (hi : ¬ (i < len ∧ i < 60)) {call : Lite.Callee} : ∃ fr', evalS call k hA fr h = some (.exit 0, fr', h) ∧ ∀ t, t < 14 → fr'.get t = fr.get t := by
  have ne : ∀ t j : Nat, t < 14 → 14 ≤ j → ¬ t = j := fun t j ht hj => by omega
  by_cases h1 : i < len
  · have b1 : decide ((i : Int) < (len : Int)) = true := by simp <;> omega
    have b2 : decide ((i : Int) < 60) = false := by simp <;> omega
    refine ⟨_, (by simp (maxSteps := 4000000) only [hA, S.fst, evalT_fn, BK.hid, cond_true, cond_false, guess0, List.tail_nil, List.headD_nil, evalS, evalOps, evalOp, evalO, wantedA, opd, opds, optOpd, optInt, putO, frameOf, T.get_set, T.get_nil, Option.map_some, Option.map_none, Nat.reduceEqDiff, if_true, if_false, reduceIte, reduceCtorEq, Nat.reduceAdd, resA, oneOrTuple, binA, binInt, eqA, lenA, capA, unA, partA, partsA, fillA_nil, sliceA, bounds_none, bounds_lo, bounds_hi, bounds_lohi, evalDreg_false, List.take_succ_cons, List.take_zero, List.take_nil, List.drop_zero, List.drop_succ_cons, List.drop_nil, AV.beq, eq_self, hoist, evalD, O.cls, readsOk, List.tail_cons, List.headD_cons, List.nil_append, List.cons_append, List.getLast?_cons_cons, List.getLast?_singleton, Nat.sub_zero, Int.toNat_natCast, ite_self, Nat.add_zero, Nat.zero_add, Nat.zero_mul, Option.isNone_none, Option.isNone_some, Option.isSome_none, Option.isSome_some, Int.reduceBEq, Int.reduceBNe, Int.reduceLT, Int.reduceLE, Int.reduceGT, Int.reduceGE, Int.reduceEq, decide_true, decide_false, Bool.not_true, Bool.not_false, Int.reduceMul, Int.reduceAdd, Int.reduceSub, Int.reduceToNat, Nat.reduceMul, Nat.reduceSub, Nat.reduceLT, Nat.reduceLeDiff, beq_self_eq_true, bne_self_eq_false, Bool.true_beq, Bool.false_beq, ne_eq, not_true_eq_false, not_false_eq_true, Bool.false_eq_true, Bool.or_self, or_self, AV.cells, AV.one, List.all_cons, List.all_nil, Bool.and_true, Bool.true_and, List.length_cons, List.length_nil, splice, List.set_cons_zero, List.set_cons_succ, Nat.le_refl, Nat.reduceLeDiff, iter_succ, readA, readK, loadA, List.getElem?_cons_zero, List.getElem?_cons_succ, Bool.and_self, and_self, and_true, true_and, s3_l1, g0, g6, b1, b2]; rfl), fun t ht => ?_⟩
    simp only [T.get_set, ne t 24 ht (by omega), ne t 25 ht (by omega), ne t 26 ht (by omega), ne t 27 ht (by omega), ne t 28 ht (by omega), ne t 29 ht (by omega), ne t 30 ht (by omega), ne t 31 ht (by omega), if_false]
  · have b1 : decide ((i : Int) < (len : Int)) = false := by simp <;> omega
    refine ⟨_, (by simp (maxSteps := 4000000) only [hA, S.fst, evalT_fn, BK.hid, cond_true, cond_false, guess0, List.tail_nil, List.headD_nil, evalS, evalOps, evalOp, evalO, wantedA, opd, opds, optOpd, optInt, putO, frameOf, T.get_set, T.get_nil, Option.map_some, Option.map_none, Nat.reduceEqDiff, if_true, if_false, reduceIte, reduceCtorEq, Nat.reduceAdd, resA, oneOrTuple, binA, binInt, eqA, lenA, capA, unA, partA, partsA, fillA_nil, sliceA, bounds_none, bounds_lo, bounds_hi, bounds_lohi, evalDreg_false, List.take_succ_cons, List.take_zero, List.take_nil, List.drop_zero, List.drop_succ_cons, List.drop_nil, AV.beq, eq_self, hoist, evalD, O.cls, readsOk, List.tail_cons, List.headD_cons, List.nil_append, List.cons_append, List.getLast?_cons_cons, List.getLast?_singleton, Nat.sub_zero, Int.toNat_natCast, ite_self, Nat.add_zero, Nat.zero_add, Nat.zero_mul, Option.isNone_none, Option.isNone_some, Option.isSome_none, Option.isSome_some, Int.reduceBEq, Int.reduceBNe, Int.reduceLT, Int.reduceLE, Int.reduceGT, Int.reduceGE, Int.reduceEq, decide_true, decide_false, Bool.not_true, Bool.not_false, Int.reduceMul, Int.reduceAdd, Int.reduceSub, Int.reduceToNat, Nat.reduceMul, Nat.reduceSub, Nat.reduceLT, Nat.reduceLeDiff, beq_self_eq_true, bne_self_eq_false, Bool.true_beq, Bool.false_beq, ne_eq, not_true_eq_false, not_false_eq_true, Bool.false_eq_true, Bool.or_self, or_self, AV.cells, AV.one, List.all_cons, List.all_nil, Bool.and_true, Bool.true_and, List.length_cons, List.length_nil, splice, List.set_cons_zero, List.set_cons_succ, Nat.le_refl, Nat.reduceLeDiff, iter_succ, readA, readK, loadA, List.getElem?_cons_zero, List.getElem?_cons_succ, Bool.and_self, and_self, and_true, true_and, s3_l1, g0, g6, b1]; rfl), fun t ht => ?_⟩
    simp only [T.get_set, ne t 24 ht (by omega), ne t 25 ht (by omega), ne t 26 ht (by omega), ne t 27 ht (by omega), ne t 28 ht (by omega), ne t 29 ht (by omega), ne t 30 ht (by omega), ne t 31 ht (by omega), if_false]

theorem hB_ok {q o : Nat} {len : Nat} {cap : Cap} {i : Nat} {x : ActV} (g0 : fr.get 0 = some (.slice (some (q, o)) len cap)) (g6 : fr.get 6 = some (.int .i64 i)) (hi : i < len) (hc : h.cells (q, o + i * 12) 12 = some (actC x)) {call : Lite.Callee} :
    ∃ fr', evalS call k hB.fst fr h = some (.normal, fr', h.new ⟨actC x, .own⟩) ∧ fr'.get 7 = some (.ptr (some (h.next, 0))) ∧ ∀ t, t < 7 → fr'.get t = fr.get t := by
  have b1 : 0 ≤ (i : Int) ∧ (i : Int) < (len : Int) := by omega
  have w1 : (h.new ⟨zA, .own⟩).write (h.next, 0) (actC x) = some (h.new ⟨actC x, .own⟩) := write_new (actC_len _) (actC_one _)
  unfold zA at w1
  refine ⟨_, (by simp (maxSteps := 4000000) only [hB, S.fst, S.snd, S.inn, evalT_fn, BK.hid, cond_true, cond_false, guess0, List.tail_nil, List.headD_nil, evalS, evalOps, evalOp, evalO, wantedA, opd, opds, optOpd, optInt, putO, frameOf, T.get_set, T.get_nil, Option.map_some, Option.map_none, Nat.reduceEqDiff, if_true, if_false, reduceIte, reduceCtorEq, Nat.reduceAdd, resA, oneOrTuple, binA, binInt, eqA, lenA, capA, unA, partA, partsA, fillA_nil, sliceA, bounds_none, bounds_lo, bounds_hi, bounds_lohi, evalDreg_false, List.take_succ_cons, List.take_zero, List.take_nil, List.drop_zero, List.drop_succ_cons, List.drop_nil, AV.beq, eq_self, hoist, evalD, O.cls, readsOk, List.tail_cons, List.headD_cons, List.nil_append, List.cons_append, List.getLast?_cons_cons, List.getLast?_singleton, Nat.sub_zero, Int.toNat_natCast, ite_self, Nat.add_zero, Nat.zero_add, Nat.zero_mul, Option.isNone_none, Option.isNone_some, Option.isSome_none, Option.isSome_some, Int.reduceBEq, Int.reduceBNe, Int.reduceLT, Int.reduceLE, Int.reduceGT, Int.reduceGE, Int.reduceEq, decide_true, decide_false, Bool.not_true, Bool.not_false, Int.reduceMul, Int.reduceAdd, Int.reduceSub, Int.reduceToNat, Nat.reduceMul, Nat.reduceSub, Nat.reduceLT, Nat.reduceLeDiff, beq_self_eq_true, bne_self_eq_false, Bool.true_beq, Bool.false_beq, ne_eq, not_true_eq_false, not_false_eq_true, Bool.false_eq_true, Bool.or_self, or_self, AV.cells, AV.one, List.all_cons, List.all_nil, Bool.and_true, Bool.true_and, List.length_cons, List.length_nil, splice, List.set_cons_zero, List.set_cons_succ, Nat.le_refl, Nat.reduceLeDiff, iter_succ, readA, readK, loadA, List.getElem?_cons_zero, List.getElem?_cons_succ, Bool.and_self, and_self, and_true, true_and, s3_l1, g0, g6, b1, hc, w1, actC_len]; rfl), by simp [T.get_set], fun t ht => ?_⟩
  have ne : ∀ j, 7 ≤ j → ¬ t = j := fun j hj => by omega
  simp only [T.get_set, ne 34 (by omega), ne 35 (by omega), ne 36 (by omega), ne 37 (by omega), ne 7 (by omega), if_false]

theorem hC_ok {call : Lite.Callee} : ∃ fr', evalS call k hC.fst.fst fr h = some (.normal, fr', h) ∧ fr'.get 8 = some (.int .i64 0) ∧ ∀ t, t < 8 → fr'.get t = fr.get t := by
  refine ⟨_, (by simp (maxSteps := 4000000) only [hC, hB, S.fst, S.snd, S.inn, evalT_fn, BK.hid, cond_true, cond_false, guess0, List.tail_nil, List.headD_nil, evalS, evalOps, evalOp, evalO, wantedA, opd, opds, optOpd, optInt, putO, frameOf, T.get_set, T.get_nil, Option.map_some, Option.map_none, Nat.reduceEqDiff, if_true, if_false, reduceIte, reduceCtorEq, Nat.reduceAdd, resA, oneOrTuple, binA, binInt, eqA, lenA, capA, unA, partA, partsA, fillA_nil, sliceA, bounds_none, bounds_lo, bounds_hi, bounds_lohi, evalDreg_false, List.take_succ_cons, List.take_zero, List.take_nil, List.drop_zero, List.drop_succ_cons, List.drop_nil, AV.beq, eq_self, hoist, evalD, O.cls, readsOk, List.tail_cons, List.headD_cons, List.nil_append, List.cons_append, List.getLast?_cons_cons, List.getLast?_singleton, Nat.sub_zero, Int.toNat_natCast, ite_self, Nat.add_zero, Nat.zero_add, Nat.zero_mul, Option.isNone_none, Option.isNone_some, Option.isSome_none, Option.isSome_some, Int.reduceBEq, Int.reduceBNe, Int.reduceLT, Int.reduceLE, Int.reduceGT, Int.reduceGE, Int.reduceEq, decide_true, decide_false, Bool.not_true, Bool.not_false, Int.reduceMul, Int.reduceAdd, Int.reduceSub, Int.reduceToNat, Nat.reduceMul, Nat.reduceSub, Nat.reduceLT, Nat.reduceLeDiff, beq_self_eq_true, bne_self_eq_false, Bool.true_beq, Bool.false_beq, ne_eq, not_true_eq_false, not_false_eq_true, Bool.false_eq_true, Bool.or_self, or_self, AV.cells, AV.one, List.all_cons, List.all_nil, Bool.and_true, Bool.true_and, List.length_cons, List.length_nil, splice, List.set_cons_zero, List.set_cons_succ, Nat.le_refl, Nat.reduceLeDiff, iter_succ, readA, readK, loadA, List.getElem?_cons_zero, List.getElem?_cons_succ, Bool.and_self, and_self, and_true, true_and, s3_l1]; rfl), by simp [T.get_set], fun t ht => ?_⟩
  simp only [T.get_set, show ¬ t = 8 by omega, if_false]

theorem hD_skip {base : Option (Nat × Nat)} {len : Nat} {cap : Cap} {b : Nat} {x : ActV} (g5 : fr.get 5 = some (.slice base len cap)) (g7 : fr.get 7 = some (.ptr (some (b, 0)))) (hb : h.get b = some ⟨actC x, .own⟩) (hs : ¬ (x.kind.tmod 3 = 1 ∧ 0 < len)) {call : Lite.Callee} :
    ∃ fr', evalS call k hD.fst fr h = some (.normal, fr', h) ∧ ∀ t, t < 8 → fr'.get t = fr.get t := by
  have c0 : h.cell (b, 0) = some (.int .i64 x.kind) := by rw [Hp.cell_at hb rfl]; rfl
  have ne : ∀ t j : Nat, t < 8 → 8 ≤ j → ¬ t = j := fun t j ht hj => by omega
  by_cases h1 : x.kind.tmod 3 = 1
  · have d1 : (x.kind.tmod 3 == 1) = true := by rw [h1]; rfl
    have d2 : decide ((len : Int) > 0) = false := by simp <;> omega
    refine ⟨_, (by simp (maxSteps := 4000000) only [hD, hC, hB, S.fst, S.snd, S.inn, evalT_fn, BK.hid, cond_true, cond_false, guess0, List.tail_nil, List.headD_nil, evalS, evalOps, evalOp, evalO, wantedA, opd, opds, optOpd, optInt, putO, frameOf, T.get_set, T.get_nil, Option.map_some, Option.map_none, Nat.reduceEqDiff, if_true, if_false, reduceIte, reduceCtorEq, Nat.reduceAdd, resA, oneOrTuple, binA, binInt, eqA, lenA, capA, unA, partA, partsA, fillA_nil, sliceA, bounds_none, bounds_lo, bounds_hi, bounds_lohi, evalDreg_false, List.take_succ_cons, List.take_zero, List.take_nil, List.drop_zero, List.drop_succ_cons, List.drop_nil, AV.beq, eq_self, hoist, evalD, O.cls, readsOk, List.tail_cons, List.headD_cons, List.nil_append, List.cons_append, List.getLast?_cons_cons, List.getLast?_singleton, Nat.sub_zero, Int.toNat_natCast, ite_self, Nat.add_zero, Nat.zero_add, Nat.zero_mul, Option.isNone_none, Option.isNone_some, Option.isSome_none, Option.isSome_some, Int.reduceBEq, Int.reduceBNe, Int.reduceLT, Int.reduceLE, Int.reduceGT, Int.reduceGE, Int.reduceEq, decide_true, decide_false, Bool.not_true, Bool.not_false, Int.reduceMul, Int.reduceAdd, Int.reduceSub, Int.reduceToNat, Nat.reduceMul, Nat.reduceSub, Nat.reduceLT, Nat.reduceLeDiff, beq_self_eq_true, bne_self_eq_false, Bool.true_beq, Bool.false_beq, ne_eq, not_true_eq_false, not_false_eq_true, Bool.false_eq_true, Bool.or_self, or_self, AV.cells, AV.one, List.all_cons, List.all_nil, Bool.and_true, Bool.true_and, List.length_cons, List.length_nil, splice, List.set_cons_zero, List.set_cons_succ, Nat.le_refl, Nat.reduceLeDiff, iter_succ, readA, readK, loadA, List.getElem?_cons_zero, List.getElem?_cons_succ, Bool.and_self, and_self, and_true, true_and, s3_l1, g5, g7, c0, d1, d2]; rfl), fun t ht => ?_⟩
    simp only [T.get_set, ne t 65 ht (by omega), ne t 66 ht (by omega), ne t 67 ht (by omega), ne t 68 ht (by omega), ne t 69 ht (by omega), ne t 70 ht (by omega), ne t 71 ht (by omega), ne t 72 ht (by omega), ne t 73 ht (by omega), if_false]
  · have d1 : (x.kind.tmod 3 == 1) = false := by simp [h1]
    refine ⟨_, (by simp (maxSteps := 4000000) only [hD, hC, hB, S.fst, S.snd, S.inn, evalT_fn, BK.hid, cond_true, cond_false, guess0, List.tail_nil, List.headD_nil, evalS, evalOps, evalOp, evalO, wantedA, opd, opds, optOpd, optInt, putO, frameOf, T.get_set, T.get_nil, Option.map_some, Option.map_none, Nat.reduceEqDiff, if_true, if_false, reduceIte, reduceCtorEq, Nat.reduceAdd, resA, oneOrTuple, binA, binInt, eqA, lenA, capA, unA, partA, partsA, fillA_nil, sliceA, bounds_none, bounds_lo, bounds_hi, bounds_lohi, evalDreg_false, List.take_succ_cons, List.take_zero, List.take_nil, List.drop_zero, List.drop_succ_cons, List.drop_nil, AV.beq, eq_self, hoist, evalD, O.cls, readsOk, List.tail_cons, List.headD_cons, List.nil_append, List.cons_append, List.getLast?_cons_cons, List.getLast?_singleton, Nat.sub_zero, Int.toNat_natCast, ite_self, Nat.add_zero, Nat.zero_add, Nat.zero_mul, Option.isNone_none, Option.isNone_some, Option.isSome_none, Option.isSome_some, Int.reduceBEq, Int.reduceBNe, Int.reduceLT, Int.reduceLE, Int.reduceGT, Int.reduceGE, Int.reduceEq, decide_true, decide_false, Bool.not_true, Bool.not_false, Int.reduceMul, Int.reduceAdd, Int.reduceSub, Int.reduceToNat, Nat.reduceMul, Nat.reduceSub, Nat.reduceLT, Nat.reduceLeDiff, beq_self_eq_true, bne_self_eq_false, Bool.true_beq, Bool.false_beq, ne_eq, not_true_eq_false, not_false_eq_true, Bool.false_eq_true, Bool.or_self, or_self, AV.cells, AV.one, List.all_cons, List.all_nil, Bool.and_true, Bool.true_and, List.length_cons, List.length_nil, splice, List.set_cons_zero, List.set_cons_succ, Nat.le_refl, Nat.reduceLeDiff, iter_succ, readA, readK, loadA, List.getElem?_cons_zero, List.getElem?_cons_succ, Bool.and_self, and_self, and_true, true_and, s3_l1, g5, g7, c0, d1]; rfl), fun t ht => ?_⟩
    simp only [T.get_set, ne t 65 ht (by omega), ne t 66 ht (by omega), ne t 67 ht (by omega), ne t 68 ht (by omega), ne t 69 ht (by omega), ne t 70 ht (by omega), ne t 71 ht (by omega), ne t 72 ht (by omega), ne t 73 ht (by omega), if_false]

/-- Kept once more, and told once more. -/
theorem hD_keep {F : FuncId → Option Def} {a q : Nat} {len : Nat} {cap : Cap} {b : Nat} {x : ActV} {y : Int} {w' : AV} {h1 h2 : Hp} (g3 : fr.get 3 = some (.ptr (some (a, 0)))) (g5 : fr.get 5 = some (.slice (some (q, 0)) len cap)) (g7 : fr.get 7 = some (.ptr (some (b, 0)))) (hb : h.get b = some ⟨actC x, .own⟩) (hs : x.kind.tmod 3 = 1 ∧ 0 < len)
    (hn : 0 ≤ x.n.tmod 16 ∧ x.n.tmod 16 < len) (hq : h.cell (q, (x.n.tmod 16).toNat) = some (.int .i64 y)) (hq1 : h1.cell (q, (x.n.tmod 16).toNat) = some (.int .i64 y)) (e1 : evalFn F k 14 [.ptr (some (a, 0)), .int .i64 y] h = some (.int .i64 0, h1))
    (e2 : appendA (h1.new ⟨[.int .i64 y], .own⟩) 1 8 (.slice (some (q, 0)) len cap) (.slice (some (h1.next, 0)) 1 (.known 1)) = some (w', h2)) :
    ∃ fr', evalS (evalT F k) k hD.fst fr h = some (.exit 1, fr', h2) ∧ fr'.get 5 = some w' ∧ ∀ t, t < 8 → t ≠ 5 → fr'.get t = fr.get t := by
  have c0 : h.cell (b, 0) = some (.int .i64 x.kind) := by rw [Hp.cell_at hb rfl]; rfl
  have c1 : h.cell (b, 1) = some (.int .i64 x.n) := by rw [Hp.cell_at hb rfl]; rfl
  have d1 : (x.kind.tmod 3 == 1) = true := by rw [hs.1]; rfl
  have d2 : decide ((len : Int) > 0) = true := by simp <;> omega
  have d3 : decide (x.n.tmod 16 ≥ 0) = true := by simp <;> omega
  have d4 : decide (x.n.tmod 16 < (len : Int)) = true := by simp <;> omega
  have f1 : fillA [.int .i64 0] [(0, 1, .int .i64 y)] = some [.int .i64 y] := rfl
  refine ⟨_, (by simp (maxSteps := 4000000) only [hD, hC, hB, S.fst, S.snd, S.inn, evalT_fn, BK.hid, cond_true, cond_false, guess0, List.tail_nil, List.headD_nil, evalS, evalOps, evalOp, evalO, wantedA, opd, opds, optOpd, optInt, putO, frameOf, T.get_set, T.get_nil, Option.map_some, Option.map_none, Nat.reduceEqDiff, if_true, if_false, reduceIte, reduceCtorEq, Nat.reduceAdd, resA, oneOrTuple, binA, binInt, eqA, lenA, capA, unA, partA, partsA, fillA_nil, sliceA, bounds_none, bounds_lo, bounds_hi, bounds_lohi, evalDreg_false, List.take_succ_cons, List.take_zero, List.take_nil, List.drop_zero, List.drop_succ_cons, List.drop_nil, AV.beq, eq_self, hoist, evalD, O.cls, readsOk, List.tail_cons, List.headD_cons, List.nil_append, List.cons_append, List.getLast?_cons_cons, List.getLast?_singleton, Nat.sub_zero, Int.toNat_natCast, ite_self, Nat.add_zero, Nat.zero_add, Nat.zero_mul, Option.isNone_none, Option.isNone_some, Option.isSome_none, Option.isSome_some, Int.reduceBEq, Int.reduceBNe, Int.reduceLT, Int.reduceLE, Int.reduceGT, Int.reduceGE, Int.reduceEq, decide_true, decide_false, Bool.not_true, Bool.not_false, Int.reduceMul, Int.reduceAdd, Int.reduceSub, Int.reduceToNat, Nat.reduceMul, Nat.reduceSub, Nat.reduceLT, Nat.reduceLeDiff, beq_self_eq_true, bne_self_eq_false, Bool.true_beq, Bool.false_beq, ne_eq, not_true_eq_false, not_false_eq_true, Bool.false_eq_true, Bool.or_self, or_self, AV.cells, AV.one, List.all_cons, List.all_nil, Bool.and_true, Bool.true_and, List.length_cons, List.length_nil, splice, List.set_cons_zero, List.set_cons_succ, Nat.le_refl, Nat.reduceLeDiff, iter_succ, readA, readK, loadA, List.getElem?_cons_zero, List.getElem?_cons_succ, Bool.and_self, and_self, and_true, true_and, s3_l1, g3, g5, g7, c0, c1, d1, d2, d3, d4, hn, hq, hq1, e1, f1, e2, Nat.mul_one]; rfl), by simp [T.get_set], fun t ht h5 => ?_⟩
  have ne : ∀ j, 8 ≤ j → ¬ t = j := fun j hj => by omega
  simp only [T.get_set, h5, ne 10 (by omega), ne 65 (by omega), ne 66 (by omega), ne 67 (by omega), ne 68 (by omega), ne 69 (by omega), ne 70 (by omega), ne 71 (by omega), ne 72 (by omega), ne 73 (by omega), ne 74 (by omega), ne 75 (by omega), ne 76 (by omega), ne 77 (by omega), ne 78 (by omega), ne 79 (by omega), ne 80 (by omega), ne 81 (by omega), ne 82 (by omega), ne 83 (by omega), ne 84 (by omega), ne 85 (by omega), ne 86 (by omega), ne 87 (by omega), ne 88 (by omega), ne 89 (by omega), ne 90 (by omega), ne 91 (by omega), ne 92 (by omega), ne 93 (by omega), ne 94 (by omega), ne 95 (by omega), ne 96 (by omega), ne 97 (by omega), ne 98 (by omega), ne 99 (by omega), ne 100 (by omega), if_false]

/-- Nothing of that number is told. -/
theorem hD_none {base : Option (Nat × Nat)} {len : Nat} {cap : Cap} {b : Nat} {x : ActV} (g5 : fr.get 5 = some (.slice base len cap)) (g7 : fr.get 7 = some (.ptr (some (b, 0)))) (hb : h.get b = some ⟨actC x, .own⟩) (hs : x.kind.tmod 3 = 1 ∧ 0 < len)
    (hn : ¬ (0 ≤ x.n.tmod 16 ∧ x.n.tmod 16 < len)) {call : Lite.Callee} :
    ∃ fr', evalS call k hD.fst fr h = some (.exit 1, fr', h) ∧ ∀ t, t < 8 → fr'.get t = fr.get t := by
  have c0 : h.cell (b, 0) = some (.int .i64 x.kind) := by rw [Hp.cell_at hb rfl]; rfl
  have c1 : h.cell (b, 1) = some (.int .i64 x.n) := by rw [Hp.cell_at hb rfl]; rfl
  have d1 : (x.kind.tmod 3 == 1) = true := by rw [hs.1]; rfl
  have d2 : decide ((len : Int) > 0) = true := by simp <;> omega
  have ne : ∀ t j : Nat, t < 8 → 8 ≤ j → ¬ t = j := fun t j ht hj => by omega
  by_cases h0 : 0 ≤ x.n.tmod 16
  · have d3 : decide (x.n.tmod 16 ≥ 0) = true := by simp <;> omega
    have d4 : decide (x.n.tmod 16 < (len : Int)) = false := by simp <;> omega
    refine ⟨_, (by simp (maxSteps := 4000000) only [hD, hC, hB, S.fst, S.snd, S.inn, evalT_fn, BK.hid, cond_true, cond_false, guess0, List.tail_nil, List.headD_nil, evalS, evalOps, evalOp, evalO, wantedA, opd, opds, optOpd, optInt, putO, frameOf, T.get_set, T.get_nil, Option.map_some, Option.map_none, Nat.reduceEqDiff, if_true, if_false, reduceIte, reduceCtorEq, Nat.reduceAdd, resA, oneOrTuple, binA, binInt, eqA, lenA, capA, unA, partA, partsA, fillA_nil, sliceA, bounds_none, bounds_lo, bounds_hi, bounds_lohi, evalDreg_false, List.take_succ_cons, List.take_zero, List.take_nil, List.drop_zero, List.drop_succ_cons, List.drop_nil, AV.beq, eq_self, hoist, evalD, O.cls, readsOk, List.tail_cons, List.headD_cons, List.nil_append, List.cons_append, List.getLast?_cons_cons, List.getLast?_singleton, Nat.sub_zero, Int.toNat_natCast, ite_self, Nat.add_zero, Nat.zero_add, Nat.zero_mul, Option.isNone_none, Option.isNone_some, Option.isSome_none, Option.isSome_some, Int.reduceBEq, Int.reduceBNe, Int.reduceLT, Int.reduceLE, Int.reduceGT, Int.reduceGE, Int.reduceEq, decide_true, decide_false, Bool.not_true, Bool.not_false, Int.reduceMul, Int.reduceAdd, Int.reduceSub, Int.reduceToNat, Nat.reduceMul, Nat.reduceSub, Nat.reduceLT, Nat.reduceLeDiff, beq_self_eq_true, bne_self_eq_false, Bool.true_beq, Bool.false_beq, ne_eq, not_true_eq_false, not_false_eq_true, Bool.false_eq_true, Bool.or_self, or_self, AV.cells, AV.one, List.all_cons, List.all_nil, Bool.and_true, Bool.true_and, List.length_cons, List.length_nil, splice, List.set_cons_zero, List.set_cons_succ, Nat.le_refl, Nat.reduceLeDiff, iter_succ, readA, readK, loadA, List.getElem?_cons_zero, List.getElem?_cons_succ, Bool.and_self, and_self, and_true, true_and, s3_l1, g5, g7, c0, c1, d1, d2, d3, d4]; rfl), fun t ht => ?_⟩
    simp only [T.get_set, ne t 10 ht (by omega), ne t 65 ht (by omega), ne t 66 ht (by omega), ne t 67 ht (by omega), ne t 68 ht (by omega), ne t 69 ht (by omega), ne t 70 ht (by omega), ne t 71 ht (by omega), ne t 72 ht (by omega), ne t 73 ht (by omega), ne t 74 ht (by omega), ne t 75 ht (by omega), ne t 76 ht (by omega), ne t 77 ht (by omega), ne t 78 ht (by omega), ne t 79 ht (by omega), ne t 80 ht (by omega), ne t 81 ht (by omega), ne t 82 ht (by omega), ne t 83 ht (by omega), ne t 84 ht (by omega), ne t 85 ht (by omega), ne t 86 ht (by omega), ne t 87 ht (by omega), ne t 88 ht (by omega), ne t 89 ht (by omega), ne t 90 ht (by omega), ne t 91 ht (by omega), ne t 92 ht (by omega), ne t 93 ht (by omega), if_false]
  · have d3 : decide (x.n.tmod 16 ≥ 0) = false := by simp <;> omega
    refine ⟨_, (by simp (maxSteps := 4000000) only [hD, hC, hB, S.fst, S.snd, S.inn, evalT_fn, BK.hid, cond_true, cond_false, guess0, List.tail_nil, List.headD_nil, evalS, evalOps, evalOp, evalO, wantedA, opd, opds, optOpd, optInt, putO, frameOf, T.get_set, T.get_nil, Option.map_some, Option.map_none, Nat.reduceEqDiff, if_true, if_false, reduceIte, reduceCtorEq, Nat.reduceAdd, resA, oneOrTuple, binA, binInt, eqA, lenA, capA, unA, partA, partsA, fillA_nil, sliceA, bounds_none, bounds_lo, bounds_hi, bounds_lohi, evalDreg_false, List.take_succ_cons, List.take_zero, List.take_nil, List.drop_zero, List.drop_succ_cons, List.drop_nil, AV.beq, eq_self, hoist, evalD, O.cls, readsOk, List.tail_cons, List.headD_cons, List.nil_append, List.cons_append, List.getLast?_cons_cons, List.getLast?_singleton, Nat.sub_zero, Int.toNat_natCast, ite_self, Nat.add_zero, Nat.zero_add, Nat.zero_mul, Option.isNone_none, Option.isNone_some, Option.isSome_none, Option.isSome_some, Int.reduceBEq, Int.reduceBNe, Int.reduceLT, Int.reduceLE, Int.reduceGT, Int.reduceGE, Int.reduceEq, decide_true, decide_false, Bool.not_true, Bool.not_false, Int.reduceMul, Int.reduceAdd, Int.reduceSub, Int.reduceToNat, Nat.reduceMul, Nat.reduceSub, Nat.reduceLT, Nat.reduceLeDiff, beq_self_eq_true, bne_self_eq_false, Bool.true_beq, Bool.false_beq, ne_eq, not_true_eq_false, not_false_eq_true, Bool.false_eq_true, Bool.or_self, or_self, AV.cells, AV.one, List.all_cons, List.all_nil, Bool.and_true, Bool.true_and, List.length_cons, List.length_nil, splice, List.set_cons_zero, List.set_cons_succ, Nat.le_refl, Nat.reduceLeDiff, iter_succ, readA, readK, loadA, List.getElem?_cons_zero, List.getElem?_cons_succ, Bool.and_self, and_self, and_true, true_and, s3_l1, g5, g7, c0, c1, d1, d2, d3]; rfl), fun t ht => ?_⟩
    simp only [T.get_set, ne t 10 ht (by omega), ne t 65 ht (by omega), ne t 66 ht (by omega), ne t 67 ht (by omega), ne t 68 ht (by omega), ne t 69 ht (by omega), ne t 70 ht (by omega), ne t 71 ht (by omega), ne t 72 ht (by omega), ne t 73 ht (by omega), ne t 74 ht (by omega), ne t 75 ht (by omega), ne t 76 ht (by omega), ne t 77 ht (by omega), ne t 78 ht (by omega), ne t 79 ht (by omega), ne t 80 ht (by omega), ne t 81 ht (by omega), ne t 82 ht (by omega), ne t 83 ht (by omega), ne t 84 ht (by omega), ne t 85 ht (by omega), ne t 86 ht (by omega), ne t 87 ht (by omega), ne t 88 ht (by omega), ne t 89 ht (by omega), ne t 90 ht (by omega), ne t 91 ht (by omega), ne t 92 ht (by omega), ne t 93 ht (by omega), if_false]

theorem hE_ok {F : FuncId → Option Def} {a b : Nat} {x : ActV} {m : Nd} {id : Int} {h1 h2 h3 : Hp} (g3 : fr.get 3 = some (.ptr (some (a, 0)))) (g7 : fr.get 7 = some (.ptr (some (b, 0)))) (hb : h.get b = some ⟨actC x, .own⟩)
    (e1 : evalFn F k 17 [.agg (actC x)] h = some (.agg (nodeC m), h1)) (e2 : evalFn F k 16 [.agg (nodeC m)] h1 = some (.agg (nodeC m), h2)) (e3 : evalFn F k 15 [.ptr (some (a, 0)), .agg (nodeC m)] h2 = some (.tuple [.int .i64 id, .int .i64 0], h3)) :
    ∃ fr', evalS (evalT F k) k hE.fst fr h = some (.normal, fr', h3) ∧ fr'.get 11 = some (.int .i64 id) ∧ fr'.get 12 = some (.int .i64 0) ∧ ∀ t, t < 8 → fr'.get t = fr.get t := by
  have c1 := actC_all hb
  refine ⟨_, (by simp (maxSteps := 4000000) only [hE, hD, hC, hB, S.fst, S.snd, S.inn, evalT_fn, BK.hid, cond_true, cond_false, guess0, List.tail_nil, List.headD_nil, evalS, evalOps, evalOp, evalO, wantedA, opd, opds, optOpd, optInt, putO, frameOf, T.get_set, T.get_nil, Option.map_some, Option.map_none, Nat.reduceEqDiff, if_true, if_false, reduceIte, reduceCtorEq, Nat.reduceAdd, resA, oneOrTuple, binA, binInt, eqA, lenA, capA, unA, partA, partsA, fillA_nil, sliceA, bounds_none, bounds_lo, bounds_hi, bounds_lohi, evalDreg_false, List.take_succ_cons, List.take_zero, List.take_nil, List.drop_zero, List.drop_succ_cons, List.drop_nil, AV.beq, eq_self, hoist, evalD, O.cls, readsOk, List.tail_cons, List.headD_cons, List.nil_append, List.cons_append, List.getLast?_cons_cons, List.getLast?_singleton, Nat.sub_zero, Int.toNat_natCast, ite_self, Nat.add_zero, Nat.zero_add, Nat.zero_mul, Option.isNone_none, Option.isNone_some, Option.isSome_none, Option.isSome_some, Int.reduceBEq, Int.reduceBNe, Int.reduceLT, Int.reduceLE, Int.reduceGT, Int.reduceGE, Int.reduceEq, decide_true, decide_false, Bool.not_true, Bool.not_false, Int.reduceMul, Int.reduceAdd, Int.reduceSub, Int.reduceToNat, Nat.reduceMul, Nat.reduceSub, Nat.reduceLT, Nat.reduceLeDiff, beq_self_eq_true, bne_self_eq_false, Bool.true_beq, Bool.false_beq, ne_eq, not_true_eq_false, not_false_eq_true, Bool.false_eq_true, Bool.or_self, or_self, AV.cells, AV.one, List.all_cons, List.all_nil, Bool.and_true, Bool.true_and, List.length_cons, List.length_nil, splice, List.set_cons_zero, List.set_cons_succ, Nat.le_refl, Nat.reduceLeDiff, iter_succ, readA, readK, loadA, List.getElem?_cons_zero, List.getElem?_cons_succ, Bool.and_self, and_self, and_true, true_and, s3_l1, g3, g7, c1, e1, e2, e3]; rfl), by simp [T.get_set], by simp [T.get_set], fun t ht => ?_⟩
  have ne : ∀ j, 8 ≤ j → ¬ t = j := fun j hj => by omega
  simp only [T.get_set, ne 11 (by omega), ne 12 (by omega), ne 101 (by omega), ne 102 (by omega), ne 103 (by omega), ne 104 (by omega), ne 105 (by omega), ne 106 (by omega), ne 107 (by omega), ne 108 (by omega), if_false]

theorem hF_ok (g12 : fr.get 12 = some (.int .i64 0)) {call : Lite.Callee} : ∃ fr', evalS call k hF.fst fr h = some (.normal, fr', h) ∧ ∀ t, t < 14 → fr'.get t = fr.get t := by
  refine ⟨_, (by simp (maxSteps := 4000000) only [hF, hE, hD, hC, hB, S.fst, S.snd, S.inn, evalT_fn, BK.hid, cond_true, cond_false, guess0, List.tail_nil, List.headD_nil, evalS, evalOps, evalOp, evalO, wantedA, opd, opds, optOpd, optInt, putO, frameOf, T.get_set, T.get_nil, Option.map_some, Option.map_none, Nat.reduceEqDiff, if_true, if_false, reduceIte, reduceCtorEq, Nat.reduceAdd, resA, oneOrTuple, binA, binInt, eqA, lenA, capA, unA, partA, partsA, fillA_nil, sliceA, bounds_none, bounds_lo, bounds_hi, bounds_lohi, evalDreg_false, List.take_succ_cons, List.take_zero, List.take_nil, List.drop_zero, List.drop_succ_cons, List.drop_nil, AV.beq, eq_self, hoist, evalD, O.cls, readsOk, List.tail_cons, List.headD_cons, List.nil_append, List.cons_append, List.getLast?_cons_cons, List.getLast?_singleton, Nat.sub_zero, Int.toNat_natCast, ite_self, Nat.add_zero, Nat.zero_add, Nat.zero_mul, Option.isNone_none, Option.isNone_some, Option.isSome_none, Option.isSome_some, Int.reduceBEq, Int.reduceBNe, Int.reduceLT, Int.reduceLE, Int.reduceGT, Int.reduceGE, Int.reduceEq, decide_true, decide_false, Bool.not_true, Bool.not_false, Int.reduceMul, Int.reduceAdd, Int.reduceSub, Int.reduceToNat, Nat.reduceMul, Nat.reduceSub, Nat.reduceLT, Nat.reduceLeDiff, beq_self_eq_true, bne_self_eq_false, Bool.true_beq, Bool.false_beq, ne_eq, not_true_eq_false, not_false_eq_true, Bool.false_eq_true, Bool.or_self, or_self, AV.cells, AV.one, List.all_cons, List.all_nil, Bool.and_true, Bool.true_and, List.length_cons, List.length_nil, splice, List.set_cons_zero, List.set_cons_succ, Nat.le_refl, Nat.reduceLeDiff, iter_succ, readA, readK, loadA, List.getElem?_cons_zero, List.getElem?_cons_succ, Bool.and_self, and_self, and_true, true_and, s3_l1, g12]; rfl), fun t ht => ?_⟩
  simp only [T.get_set, show ¬ t = 109 by omega, show ¬ t = 110 by omega, if_false]

theorem hG_ok {w w' : AV} {y : Int} {h2 : Hp} (g5 : fr.get 5 = some w) (g11 : fr.get 11 = some (.int .i64 y)) (e2 : appendA (h.new ⟨[.int .i64 y], .own⟩) 1 8 w (.slice (some (h.next, 0)) 1 (.known 1)) = some (w', h2)) {call : Lite.Callee} :
    ∃ fr', evalS call k hG fr h = some (.normal, fr', h2) ∧ fr'.get 5 = some w' ∧ ∀ t, t < 8 → t ≠ 5 → fr'.get t = fr.get t := by
  have f1 : fillA [.int .i64 0] [(0, 1, .int .i64 y)] = some [.int .i64 y] := rfl
  refine ⟨_, (by simp (maxSteps := 4000000) only [hG, hF, hE, hD, hC, hB, S.fst, S.snd, S.inn, evalT_fn, BK.hid, cond_true, cond_false, guess0, List.tail_nil, List.headD_nil, evalS, evalOps, evalOp, evalO, wantedA, opd, opds, optOpd, optInt, putO, frameOf, T.get_set, T.get_nil, Option.map_some, Option.map_none, Nat.reduceEqDiff, if_true, if_false, reduceIte, reduceCtorEq, Nat.reduceAdd, resA, oneOrTuple, binA, binInt, eqA, lenA, capA, unA, partA, partsA, fillA_nil, sliceA, bounds_none, bounds_lo, bounds_hi, bounds_lohi, evalDreg_false, List.take_succ_cons, List.take_zero, List.take_nil, List.drop_zero, List.drop_succ_cons, List.drop_nil, AV.beq, eq_self, hoist, evalD, O.cls, readsOk, List.tail_cons, List.headD_cons, List.nil_append, List.cons_append, List.getLast?_cons_cons, List.getLast?_singleton, Nat.sub_zero, Int.toNat_natCast, ite_self, Nat.add_zero, Nat.zero_add, Nat.zero_mul, Option.isNone_none, Option.isNone_some, Option.isSome_none, Option.isSome_some, Int.reduceBEq, Int.reduceBNe, Int.reduceLT, Int.reduceLE, Int.reduceGT, Int.reduceGE, Int.reduceEq, decide_true, decide_false, Bool.not_true, Bool.not_false, Int.reduceMul, Int.reduceAdd, Int.reduceSub, Int.reduceToNat, Nat.reduceMul, Nat.reduceSub, Nat.reduceLT, Nat.reduceLeDiff, beq_self_eq_true, bne_self_eq_false, Bool.true_beq, Bool.false_beq, ne_eq, not_true_eq_false, not_false_eq_true, Bool.false_eq_true, Bool.or_self, or_self, AV.cells, AV.one, List.all_cons, List.all_nil, Bool.and_true, Bool.true_and, List.length_cons, List.length_nil, splice, List.set_cons_zero, List.set_cons_succ, Nat.le_refl, Nat.reduceLeDiff, iter_succ, readA, readK, loadA, List.getElem?_cons_zero, List.getElem?_cons_succ, Bool.and_self, and_self, and_true, true_and, s3_l1, g5, g11, f1, e2]; rfl), by simp [T.get_set], fun t ht h5 => ?_⟩
  have ne : ∀ j, 8 ≤ j → ¬ t = j := fun j hj => by omega
  simp only [T.get_set, h5, ne 111 (by omega), ne 112 (by omega), ne 113 (by omega), ne 114 (by omega), if_false]

theorem hH_ok {i : Nat} (hi : i < 1000) (g6 : fr.get 6 = some (.int .i64 i)) {call : Lite.Callee} : ∃ fr', evalS call k hH fr h = some (.normal, fr', h) ∧ fr'.get 6 = some (.int .i64 ((i + 1 : Nat) : Int)) ∧ ∀ t, t < 14 → t ≠ 6 → fr'.get t = fr.get t := by
  have w1 : IntKind.i64.wrap ((i : Int) + 1) = ((i + 1 : Nat) : Int) := by rw [wrap_id (by omega) (by omega)]; simp
  refine ⟨_, (by simp (maxSteps := 4000000) only [hH, S.fst, S.snd, S.inn, evalT_fn, BK.hid, cond_true, cond_false, guess0, List.tail_nil, List.headD_nil, evalS, evalOps, evalOp, evalO, wantedA, opd, opds, optOpd, optInt, putO, frameOf, T.get_set, T.get_nil, Option.map_some, Option.map_none, Nat.reduceEqDiff, if_true, if_false, reduceIte, reduceCtorEq, Nat.reduceAdd, resA, oneOrTuple, binA, binInt, eqA, lenA, capA, unA, partA, partsA, fillA_nil, sliceA, bounds_none, bounds_lo, bounds_hi, bounds_lohi, evalDreg_false, List.take_succ_cons, List.take_zero, List.take_nil, List.drop_zero, List.drop_succ_cons, List.drop_nil, AV.beq, eq_self, hoist, evalD, O.cls, readsOk, List.tail_cons, List.headD_cons, List.nil_append, List.cons_append, List.getLast?_cons_cons, List.getLast?_singleton, Nat.sub_zero, Int.toNat_natCast, ite_self, Nat.add_zero, Nat.zero_add, Nat.zero_mul, Option.isNone_none, Option.isNone_some, Option.isSome_none, Option.isSome_some, Int.reduceBEq, Int.reduceBNe, Int.reduceLT, Int.reduceLE, Int.reduceGT, Int.reduceGE, Int.reduceEq, decide_true, decide_false, Bool.not_true, Bool.not_false, Int.reduceMul, Int.reduceAdd, Int.reduceSub, Int.reduceToNat, Nat.reduceMul, Nat.reduceSub, Nat.reduceLT, Nat.reduceLeDiff, beq_self_eq_true, bne_self_eq_false, Bool.true_beq, Bool.false_beq, ne_eq, not_true_eq_false, not_false_eq_true, Bool.false_eq_true, Bool.or_self, or_self, AV.cells, AV.one, List.all_cons, List.all_nil, Bool.and_true, Bool.true_and, List.length_cons, List.length_nil, splice, List.set_cons_zero, List.set_cons_succ, Nat.le_refl, Nat.reduceLeDiff, iter_succ, readA, readK, loadA, List.getElem?_cons_zero, List.getElem?_cons_succ, Bool.and_self, and_self, and_true, true_and, s3_l1, g6, w1]; rfl), by simp [T.get_set], fun t ht h6 => ?_⟩
  have ne : ∀ j, 14 ≤ j → ¬ t = j := fun j hj => by omega
  simp only [T.get_set, h6, ne 32 (by omega), ne 33 (by omega), if_false]

end
end Go.Proofs.Ytchffjnmkpedkaa
namespace Go.Proofs.Ytchffjnmkpedkaa
set_option linter.unusedSectionVars false
set_option linter.unusedSimpArgs false
set_option linter.unusedVariables false
open Go.Lite Go.RowKit Go.Lite.Arena
set_option maxHeartbeats 4000000
set_option maxRecDepth 10000

theorem told_lt {h : Hp} {w : AV} {l : List Int} {qs : List Nat} (hw : ToldAt h w l qs) : ∀ q ∈ qs, q < h.next := by
  match qs, hw with
  | [], _ => intro q hq; cases hq
  | [q], ⟨_, hq⟩ => intro c hc; rw [List.mem_singleton] at hc; subst hc; exact hq

/-- A number more is told. -/
theorem end_push {h : Hp} {a : Nat} {most : Int} {S : St} {bs fs qs : List Nat} {w : AV} {told : List Int} (A : AAt h a most S bs fs) (T : ToldAt h w told qs) (hd : ∀ z ∈ qs, z ∉ a :: (bs ++ fs)) (hlen : told.length < 1000000) (y : Int) :
    ∃ w' h' qs', appendA (h.new ⟨[.int .i64 y], .own⟩) 1 8 w (.slice (some (h.next, 0)) 1 (.known 1)) = some (w', h') ∧ AAt h' a most S bs fs ∧ ToldAt h' w' (told ++ [y]) qs' ∧ (∀ z ∈ qs', z ∉ a :: (bs ++ fs)) ∧ Kept h h' qs ∧ (∀ z ∈ qs', z ∈ qs ∨ h.next ≤ z) := by
  obtain ⟨w', h', qs', e, T', k, hq⟩ := told_push T (by omega) y
  refine ⟨w', h', qs', e, A.kept k (fun c hc hcq => hd c hcq hc), T', fun z hz hza => ?_, k, hq⟩
  rcases hq z hz with e | e
  · exact hd z e hza
  · have := A.lt z hza; omega

theorem pick_kids (told : List Int) (x : ActV) : (pickAct told x 8).kids = x.kids.map (pickOf told) := by
  unfold pickAct
  simp only
  rw [List.take_of_length_le (by rw [x.hk]; omega), List.drop_eq_nil_of_le (by rw [x.hk]; omega), List.append_nil]

theorem pick_told (told : List Int) (k : Int) : pickOf told k = 0 ∨ pickOf told k ∈ told := by
  unfold pickOf
  split
  · rename_i hh
    have hlt : (k.tmod 16).toNat < told.length := by omega
    right
    rw [List.getD_eq_getElem?_getD, List.getElem?_eq_getElem hlt]
    exact List.getElem_mem hlt
  · exact .inl rfl

theorem norm_kids (m : Nd) {told : List Int} (h : ∀ k ∈ m.kids, k = 0 ∨ k ∈ told) : ∀ k ∈ (norm m).kids, k = 0 ∨ k ∈ told := by
  unfold norm
  split
  · intro k hk
    exact .inl (List.eq_of_mem_replicate hk)
  · exact h

/-- Between two rounds of ArenaEnds' first loop. -/
def EndI (acts : List ActV) (base : Option (Nat × Nat)) (cap : Cap) (q a : Nat) (n : Nat) (fr : Fr) (h : Hp) : Prop :=
  ∃ (i : Nat) (S : St) (bs fs qs : List Nat) (told : List Int) (w : AV), n = 60 - i ∧ i ≤ 60 ∧ fr.get 0 = some (.slice base acts.length cap) ∧ fr.get 3 = some (.ptr (some (a, 0))) ∧ fr.get 5 = some w ∧ fr.get 6 = some (.int .i64 i) ∧
    AAt h a 100 S bs fs ∧ ToldAt h w told qs ∧ (∀ z ∈ qs, z ∉ a :: (bs ++ fs)) ∧ EndsP told i S ∧ (acts ≠ [] → base = some (q, 0) ∧ h.get q = some ⟨acts.flatMap actC, .ro⟩ ∧ q < h.next ∧ q ∉ a :: (bs ++ fs) ∧ q ∉ qs)

theorem end_step {k : Nat} {acts : List ActV} {base : Option (Nat × Nat)} {cap : Cap} {q a : Nat} (hk : 6000 < k) (n : Nat) (fr : Fr) (h : Hp) (I : EndI acts base cap q a n fr h) :
    (∃ n' fr' h', evalS (evalT F2 k) k s3_l1 fr h = some (.normal, fr', h') ∧ n' < n ∧ EndI acts base cap q a n' fr' h') ∨
    (∃ x fr' h', evalS (evalT F2 k) k s3_l1 fr h = some (x, fr', h') ∧ x ≠ .normal ∧ x = .exit 0 ∧ ∃ n', EndI acts base cap q a n' fr' h') := by
  obtain ⟨i, S, bs, fs, qs, told, w, rfl, hi, g0, g3, g5, g6, A, T, hdis, J, hq⟩ := I
  have hjl := J.len
  have hjt := J.tot
  have hjd := J.tl
  by_cases hlt : i < acts.length ∧ i < 60
  · left
    obtain ⟨hl, h60⟩ := hlt
    obtain ⟨rfl, hq1, hqn, hqa, hqq⟩ := hq (by intro e; subst e; simp at hl)
    have hx := List.getElem?_eq_getElem hl
    generalize acts[i]'hl = x at hx
    have hle : i * 12 + 12 ≤ acts.length * 12 := by
      have := Nat.mul_le_mul_right 12 (show i + 1 ≤ acts.length from hl)
      omega
    have hc : h.cells (q, 0 + i * 12) 12 = some (actC x) := by
      rw [Nat.zero_add, Hp.cells_at hq1 rfl (by rw [flat_length actC_len]; omega)]
      have := flat_cells actC_len acts i 0 12 x hx (by omega)
      rw [Nat.add_zero] at this
      rw [this, List.drop_zero, List.take_of_length_le (by rw [actC_len]; omega)]
    obtain ⟨fr1, e1, k1⟩ := hA_more (k := k) (h := h) (call := evalT F2 k) g0 g6 hl h60
    obtain ⟨fr2, e2, s7, k2⟩ := hB_ok (k := k) (h := h) (fr := fr1) (call := evalT F2 k) (by rw [k1 0 (by omega)]; exact g0) (by rw [k1 6 (by omega)]; exact g6) hl hc
    obtain ⟨fr3, e3, s8, k3⟩ := hC_ok (k := k) (h := h.new ⟨actC x, .own⟩) (fr := fr2) (call := evalT F2 k)
    have kp1 : Kept h (h.new ⟨actC x, .own⟩) [] := ⟨by simp, fun c hc _ => get_new_ne hc _⟩
    have T1 : ToldAt (h.new ⟨actC x, .own⟩) w told qs := told_kept T kp1 (by simp)
    obtain ⟨tb, tc, rfl, hcell⟩ := told_len T1
    have hpick0 : pickAct told x 0 = x := by
      obtain ⟨kind, n, leaf, kids, val, hk⟩ := x
      rfl
    obtain ⟨yy, fr4, h4, hit, _, rfl, i8, hi8, hi8', _, low4, hn4, hc4, hb4⟩ := iter_inv (body := evalS (evalT F2 k) k s3_l0) (PicI told x h.next fr3 (h.new ⟨actC x, .own⟩)) (fun y fr' h' => y = .exit 2 ∧ PicI told x h.next fr3 (h.new ⟨actC x, .own⟩) 0 fr' h')
      (fun mm fr' h' I => by
        rcases pic_step (call := evalT F2 k) (k := k) (told := told) (x := x) (b := h.next) (fr0 := fr3) (h0 := h.new ⟨actC x, .own⟩) (base := tb) (cap := tc) (by omega) (by rw [k3 5 (by omega), k2 5 (by omega), k1 5 (by omega)]; exact g5) (by rw [k3 7 (by omega)]; exact s7)
          (fun i y hy => by
            obtain ⟨z, z1, z2, z3, z4⟩ := hcell i y hy
            exact ⟨z, z1, by have := told_lt T z (by rw [z2]; simp); omega, z4⟩) mm fr' h' I with ⟨m', fr2, h2, e, hlt, I2⟩ | ⟨x, fr2, h2, e, hx, hx2, I2⟩
        · exact .inl ⟨m', fr2, h2, e, hlt, I2⟩
        · exact .inr ⟨x, fr2, h2, e, hx, hx2, I2⟩) k 8 fr3 _ (by omega) ⟨0, rfl, by omega, s8, fun _ _ => rfl, rfl, fun _ _ => rfl, by rw [hpick0, Hp.get_new, if_pos rfl]⟩
    obtain rfl : i8 = 8 := by omega
    generalize hx' : pickAct told x 8 = x' at hb4
    have hkids : ∀ y ∈ x'.kids, y = 0 ∨ y ∈ told := by
      rw [← hx', pick_kids]
      intro y hy
      obtain ⟨z, _, rfl⟩ := List.mem_map.1 hy
      exact pick_told told z
    have hnx : (h.new ⟨actC x, .own⟩).next = h.next + 1 := by simp
    have kp4 : Kept h h4 [] := ⟨by omega, fun c hc _ => by rw [hc4 c (by omega), get_new_ne hc]⟩
    have A4 : AAt h4 a 100 S bs fs := A.kept kp4 (by simp)
    have T4 := told_kept T kp4 (by simp)
    have low : ∀ t, t < 7 → fr4.get t = fr.get t := fun t ht => by rw [low4 t (by omega), k3 t (by omega), k2 t ht, k1 t (by omega)]
    have u7 : fr4.get 7 = some (.ptr (some (h.next, 0))) := by rw [low4 7 (by omega), k3 7 (by omega)]; exact s7
    have u5 : fr4.get 5 = some (.slice tb told.length tc) := by rw [low 5 (by omega)]; exact g5
    have u3 : fr4.get 3 = some (.ptr (some (a, 0))) := by rw [low 3 (by omega)]; exact g3
    -- what is left of the round, once the act is done
    have fin : ∀ (fr9 : Fr) (h9 : Hp) (S' : St) (bs' fs' qs' : List Nat) (told' : List Int) (w' : AV) (e : X), (e = .normal ∨ e = .exit 1) →
        evalS (evalT F2 k) k (.seq hD.fst (.seq hE.fst (.seq hF.fst hG))) fr4 h4 = some (e, fr9, h9) → (∀ t, t < 8 → t ≠ 5 → fr9.get t = fr4.get t) → fr9.get 5 = some w' → AAt h9 a 100 S' bs' fs' → ToldAt h9 w' told' qs' → (∀ z ∈ qs', z ∉ a :: (bs' ++ fs')) → EndsP told' (i + 1) S' →
        h.next ≤ h9.next → h9.get q = h.get q → q ∉ a :: (bs' ++ fs') → q ∉ qs' →
        ∃ n' fr' h', evalS (evalT F2 k) k s3_l1 fr h = some (.normal, fr', h') ∧ n' < 60 - i ∧ EndI acts (some (q, 0)) cap q a n' fr' h' := by
      intro fr9 h9 S' bs' fs' qs' told' w' e he ev hfr h5 A9 T9 hd9 J9 hnn hgq hqa' hqq'
      obtain ⟨fr10, e10, s6, k10⟩ := hH_ok (k := k) (h := h9) (fr := fr9) (call := evalT F2 k) (i := i) (by omega) (by rw [hfr 6 (by omega) (by omega), low 6 (by omega)]; exact g6)
      refine ⟨60 - (i + 1), fr10, h9, ?_, by omega, i + 1, S', bs', fs', qs', told', w', rfl, by omega, ?_, ?_, ?_, s6, A9, T9, hd9, J9, fun _ => ⟨rfl, by rw [hgq]; exact hq1, by omega, hqa', hqq'⟩⟩
      · simp only [evalS] at ev
        rw [h_eq]
        simp only [evalS, e1, e2, e3, hit, if_true]
        rw [ev]
        rcases he with rfl | rfl
        · simp only [e10]
        · simp only [if_true, e10]
      · rw [k10 0 (by omega) (by omega), hfr 0 (by omega) (by omega), low 0 (by omega)]; exact g0
      · rw [k10 3 (by omega) (by omega), hfr 3 (by omega) (by omega)]; exact u3
      · rw [k10 5 (by omega) (by omega)]; exact h5
    by_cases hs : x'.kind.tmod 3 = 1 ∧ 0 < told.length
    · by_cases hn : 0 ≤ x'.n.tmod 16 ∧ x'.n.tmod 16 < told.length
      · -- kept once more
        have hy := List.getElem?_eq_getElem (l := told) (i := (x'.n.tmod 16).toNat) (by omega)
        generalize told[(x'.n.tmod 16).toNat]'(by omega) = y at hy
        have hyt := List.mem_of_getElem? hy
        have hal := J.alive hyt
        obtain ⟨tb2, tc2, et, hcell4⟩ := told_len T4
        cases et
        obtain ⟨z, rfl, hqs, hzn, hz⟩ := hcell4 _ _ hy
        subst hqs
        obtain ⟨⟨sl, fl, hA4, hS4, hF4⟩, hnd4, hlt4, hSl4⟩ := A4
        have A4 : AAt h4 a 100 S bs fs := ⟨⟨sl, fl, hA4, hS4, hF4⟩, hnd4, hlt4, hSl4⟩
        have hrt := rf_le_total S y
        have ek := keep_ok (n := k) (by omega) hA4 hS4 hSl4 y (by omega)
        rw [if_neg hal] at ek
        obtain ⟨_, hyl, _⟩ := rf_pos hal
        obtain ⟨b0, rfl, rfl, hb0⟩ := slots_block hS4 hyl
        simp only [List.headD_cons] at ek
        have hzb : z ≠ b0 := fun e => hdis z (by simp) (by simp [e])
        have hfr : ∀ x, rf (inc S y) x = 0 ↔ rf S x = 0 := by
          intro x
          rw [rf_inc _ _ _ hal]
          split
          · rename_i e; subst e; constructor
            · intro hh; omega
            · intro hh; exact absurd hh hal
          · exact Iff.rfl
        have A5 := A4.turn (S' := inc S y) (length_upd _ _ _) (freeOf_same (length_upd _ _ _) hfr)
        have kp5 : Kept h4 (h4.put b0 ⟨(inc S y).flatMap slotC, .grown 26⟩) [b0] := ⟨Nat.le_refl _, fun c _ hc => by rw [Hp.get_put, if_neg (by simpa using hc)]⟩
        have T5 := told_kept T4 kp5 (by intro c hc; rw [List.mem_singleton] at hc ⊢; subst hc; exact hzb)
        have hz1 : (h4.put b0 ⟨(inc S y).flatMap slotC, .grown 26⟩).cell (z, (x'.n.tmod 16).toNat) = some (.int .i64 y) := by
          unfold Hp.cell at hz ⊢
          rw [Hp.get_put, if_neg hzb]; exact hz
        obtain ⟨w', h9, qs', ea, A9, T9, hd9, k9, hq9⟩ := end_push A5 T5 hdis (by omega) y
        obtain ⟨fr9, eD, v5, kD⟩ := hD_keep (F := F2) (k := k) (h := h4) (fr := fr4) (x := x') u3 u5 u7 hb4 hs hn hz hz1 ek ea
        have k49 : Kept h4 h9 (b0 :: [z]) := ⟨Nat.le_trans kp5.1 k9.1, fun c hc hcl => by
          simp only [List.mem_cons, not_or] at hcl
          rw [k9.2 c hc (by simpa using hcl.2.1), kp5.2 c hc (by simpa using hcl.1)]⟩
        refine fin fr9 h9 (inc S y) [b0] fs qs' (told ++ [y]) w' (.exit 1) (.inr rfl) (by simp only [evalS, eD]) kD v5 A9 T9 hd9 (J.keep hyt) (Nat.le_trans kp4.1 k49.1) ?_ hqa (fun hh => ?_)
        · rw [k49.2 q (Nat.lt_of_lt_of_le hqn kp4.1) ?_, kp4.2 q hqn (by simp)]
          simp only [List.mem_cons, not_or, List.not_mem_nil, not_false_eq_true, and_true]
          exact ⟨fun e => hqa (by simp [e]), fun e => hqq (by simp [e])⟩
        · rcases hq9 q hh with e | e
          · exact hqq e
          · have := kp4.1; simp at e; omega
      · obtain ⟨fr9, eD, kD⟩ := hD_none (k := k) (h := h4) (fr := fr4) (x := x') (call := evalT F2 k) u5 u7 hb4 hs hn
        exact fin fr9 h4 S bs fs qs told _ (.exit 1) (.inr rfl) (by simp only [evalS, eD]) (fun t ht _ => kD t ht) (by rw [kD 5 (by omega)]; exact u5) A4 T4 hdis J.mono kp4.1 (kp4.2 q hqn (by simp)) hqa hqq
    · -- a node more
      obtain ⟨fr5, eD, kD⟩ := hD_skip (k := k) (h := h4) (fr := fr4) (x := x') (call := evalT F2 k) u5 u7 hb4 hs
      obtain ⟨h5, en, k5⟩ := node_ok (n := k) (by omega) (h := h4) x'
      obtain ⟨h6, eg, k6⟩ := given_ok (n := k) (by omega) (h := h5) (actNd x')
      have k46 : Kept h4 h6 [] := k5.trans k6 (by simp)
      have k06 : Kept h h6 [] := kp4.trans k46 (by simp)
      have A6 : AAt h6 a 100 S bs fs := A4.kept k46 (by simp)
      have T6 := told_kept T4 k46 (by simp)
      have hnk := norm_kids (actNd x') (told := told) hkids
      have hall : (norm (actNd x')).kids.all (kidOk S) = true := by
        rw [List.all_eq_true]
        intro y hy
        rcases hnk y hy with e | e
        · simp [kidOk, e]
        · simp [kidOk, J.alive e]
      obtain ⟨h7, id, S1, b', em, hnew, A7, k7, hb'⟩ := (make_ok (n := k) A6 (by omega) (by omega) (by omega) (actNd x')).2.2 hall (by rw [J.full]; simp; omega)
      obtain ⟨fr6, eE, s11, s12, kE⟩ := hE_ok (F := F2) (k := k) (h := h4) (fr := fr5) (x := x') (by rw [kD 3 (by omega)]; exact u3) (by rw [kD 7 (by omega)]; exact u7) hb4 en eg em
      obtain ⟨fr7, eF, kF⟩ := hF_ok (k := k) (h := h7) (fr := fr6) (call := evalT F2 k) s12
      have T7 := told_kept T6 k7 hdis
      have hd7 : ∀ z ∈ qs, z ∉ a :: ([b'] ++ fs) := by
        intro z hz hh
        have hzl := told_lt T z hz
        simp only [List.cons_append, List.nil_append, List.mem_cons] at hh
        rcases hh with e | e | e
        · exact hdis z hz (by simp [e])
        · rcases hb' with e2 | e2
          · exact hdis z hz (by rw [e]; simp [e2])
          · have := k06.1; omega
        · exact hdis z hz (by simp [e])
      obtain ⟨w', h9, qs', ea, A9, T9, hd9, k9, hq9⟩ := end_push A7 T7 hd7 (by omega) id
      obtain ⟨fr9, eG, v5, kG⟩ := hG_ok (k := k) (h := h7) (fr := fr7) (call := evalT F2 k) (by rw [kF 5 (by omega), kE 5 (by omega), kD 5 (by omega)]; exact u5) (by rw [kF 11 (by omega)]; exact s11) ea
      refine fin fr9 h9 _ [b'] fs qs' (told ++ [id]) w' .normal (.inl rfl) (by simp only [evalS, eD, eE, eF, eG]) (fun t ht h5 => by rw [kG t ht h5, kF t (by omega), kE t ht, kD t ht]) v5 A9 T9 hd9 (J.make hnew hnk) (Nat.le_trans k06.1 (Nat.le_trans k7.1 k9.1)) ?_ (fun hh => ?_) (fun hh => ?_)
      · have q6 : q < h6.next := Nat.lt_of_lt_of_le hqn k06.1
        rw [k9.2 q (Nat.lt_of_lt_of_le q6 k7.1) hqq, k7.2 q q6 hqa, k06.2 q hqn (by simp)]
      · simp only [List.cons_append, List.nil_append, List.mem_cons] at hh
        rcases hh with e | e | e
        · exact hqa (by simp [e])
        · rcases hb' with e2 | e2
          · exact hqa (by rw [e]; simp [e2])
          · have := k06.1; omega
        · exact hqa (by simp [e])
      · rcases hq9 q hh with e | e
        · exact hqq e
        · have := k06.1; have := k7.1; omega
  · right
    obtain ⟨fr', e, kf⟩ := hA_end (k := k) (h := h) (call := evalT F2 k) g0 g6 hlt
    refine ⟨.exit 0, fr', h, ?_, by simp, rfl, _, i, S, bs, fs, qs, told, w, rfl, hi, by rw [kf 0 (by omega)]; exact g0, by rw [kf 3 (by omega)]; exact g3, by rw [kf 5 (by omega)]; exact g5, by rw [kf 6 (by omega)]; exact g6, A, T, hdis, J, hq⟩
    rw [h_eq]
    simp only [evalS, e]

end Go.Proofs.Ytchffjnmkpedkaa
namespace Go.Proofs.Ytchffjnmkpedkaa
set_option linter.unusedSectionVars false
set_option linter.unusedSimpArgs false
set_option linter.unusedVariables false
open Go.Lite Go.RowKit Go.Lite.Arena
set_option maxHeartbeats 4000000
set_option maxRecDepth 10000

def jA : S := s3_l2.fst
def jB : S := s3_l2.snd.fst.inn
def jC : S := s3_l2.snd.snd
theorem j_eq : s3_l2 = .seq jA (.seq (.block 5 jB) jC) := rfl

section
variable {k : Nat} {h : Hp} {fr : Fr}

theorem jA_more {base : Option (Nat × Nat)} {len : Nat} {cap : Cap} {j : Nat} (g5 : fr.get 5 = some (.slice base len cap)) (g13 : fr.get 13 = some (.int .i64 j)) (hj : j < len) {call : Lite.Callee} : ∃ fr', evalS call k jA fr h = some (.normal, fr', h) ∧ ∀ t, t < 14 → fr'.get t = fr.get t := by
  have b1 : decide ((j : Int) < (len : Int)) = true := by simp <;> omega
  refine ⟨_, (by simp (maxSteps := 4000000) only [jA, S.fst, evalT_fn, BK.hid, cond_true, cond_false, guess0, List.tail_nil, List.headD_nil, evalS, evalOps, evalOp, evalO, wantedA, opd, opds, optOpd, optInt, putO, frameOf, T.get_set, T.get_nil, Option.map_some, Option.map_none, Nat.reduceEqDiff, if_true, if_false, reduceIte, reduceCtorEq, Nat.reduceAdd, resA, oneOrTuple, binA, binInt, eqA, lenA, capA, unA, partA, partsA, fillA_nil, sliceA, bounds_none, bounds_lo, bounds_hi, bounds_lohi, evalDreg_false, List.take_succ_cons, List.take_zero, List.take_nil, List.drop_zero, List.drop_succ_cons, List.drop_nil, AV.beq, eq_self, hoist, evalD, O.cls, readsOk, List.tail_cons, List.headD_cons, List.nil_append, List.cons_append, List.getLast?_cons_cons, List.getLast?_singleton, Nat.sub_zero, Int.toNat_natCast, ite_self, Nat.add_zero, Nat.zero_add, Nat.zero_mul, Option.isNone_none, Option.isNone_some, Option.isSome_none, Option.isSome_some, Int.reduceBEq, Int.reduceBNe, Int.reduceLT, Int.reduceLE, Int.reduceGT, Int.reduceGE, Int.reduceEq, decide_true, decide_false, Bool.not_true, Bool.not_false, Int.reduceMul, Int.reduceAdd, Int.reduceSub, Int.reduceToNat, Nat.reduceMul, Nat.reduceSub, Nat.reduceLT, Nat.reduceLeDiff, beq_self_eq_true, bne_self_eq_false, Bool.true_beq, Bool.false_beq, ne_eq, not_true_eq_false, not_false_eq_true, Bool.false_eq_true, Bool.or_self, or_self, AV.cells, AV.one, List.all_cons, List.all_nil, Bool.and_true, Bool.true_and, List.length_cons, List.length_nil, splice, List.set_cons_zero, List.set_cons_succ, Nat.le_refl, Nat.reduceLeDiff, iter_succ, readA, readK, loadA, List.getElem?_cons_zero, List.getElem?_cons_succ, Bool.and_self, and_self, and_true, true_and, s3_l2, g5, g13, b1]; rfl), fun t ht => ?_⟩
  have ne : ∀ j, 14 ≤ j → ¬ t = j := fun j hj => by omega
  simp only [T.get_set, ne 115 (by omega), ne 116 (by omega), ne 117 (by omega), ne 118 (by omega), if_false]

theorem jA_end {base : Option (Nat × Nat)} {len : Nat} {cap : Cap} {j : Nat} (g5 : fr.get 5 = some (.slice base len cap)) (g13 : fr.get 13 = some (.int .i64 j)) (hj : ¬ j < len) {call : Lite.Callee} : ∃ fr', evalS call k jA fr h = some (.exit 4, fr', h) ∧ ∀ t, t < 14 → fr'.get t = fr.get t := by
  have b1 : decide ((j : Int) < (len : Int)) = false := by simp <;> omega
  refine ⟨_, (by simp (maxSteps := 4000000) only [jA, S.fst, evalT_fn, BK.hid, cond_true, cond_false, guess0, List.tail_nil, List.headD_nil, evalS, evalOps, evalOp, evalO, wantedA, opd, opds, optOpd, optInt, putO, frameOf, T.get_set, T.get_nil, Option.map_some, Option.map_none, Nat.reduceEqDiff, if_true, if_false, reduceIte, reduceCtorEq, Nat.reduceAdd, resA, oneOrTuple, binA, binInt, eqA, lenA, capA, unA, partA, partsA, fillA_nil, sliceA, bounds_none, bounds_lo, bounds_hi, bounds_lohi, evalDreg_false, List.take_succ_cons, List.take_zero, List.take_nil, List.drop_zero, List.drop_succ_cons, List.drop_nil, AV.beq, eq_self, hoist, evalD, O.cls, readsOk, List.tail_cons, List.headD_cons, List.nil_append, List.cons_append, List.getLast?_cons_cons, List.getLast?_singleton, Nat.sub_zero, Int.toNat_natCast, ite_self, Nat.add_zero, Nat.zero_add, Nat.zero_mul, Option.isNone_none, Option.isNone_some, Option.isSome_none, Option.isSome_some, Int.reduceBEq, Int.reduceBNe, Int.reduceLT, Int.reduceLE, Int.reduceGT, Int.reduceGE, Int.reduceEq, decide_true, decide_false, Bool.not_true, Bool.not_false, Int.reduceMul, Int.reduceAdd, Int.reduceSub, Int.reduceToNat, Nat.reduceMul, Nat.reduceSub, Nat.reduceLT, Nat.reduceLeDiff, beq_self_eq_true, bne_self_eq_false, Bool.true_beq, Bool.false_beq, ne_eq, not_true_eq_false, not_false_eq_true, Bool.false_eq_true, Bool.or_self, or_self, AV.cells, AV.one, List.all_cons, List.all_nil, Bool.and_true, Bool.true_and, List.length_cons, List.length_nil, splice, List.set_cons_zero, List.set_cons_succ, Nat.le_refl, Nat.reduceLeDiff, iter_succ, readA, readK, loadA, List.getElem?_cons_zero, List.getElem?_cons_succ, Bool.and_self, and_self, and_true, true_and, s3_l2, g5, g13, b1]; rfl), fun t ht => ?_⟩
  have ne : ∀ j, 14 ≤ j → ¬ t = j := fun j hj => by omega
  simp only [T.get_set, ne 115 (by omega), ne 116 (by omega), ne 117 (by omega), ne 118 (by omega), if_false]

theorem jB_ok {F : FuncId → Option Def} {a q : Nat} {len : Nat} {cap : Cap} {j : Nat} {t : Int} {h1 : Hp} (g3 : fr.get 3 = some (.ptr (some (a, 0)))) (g5 : fr.get 5 = some (.slice (some (q, 0)) len cap)) (g13 : fr.get 13 = some (.int .i64 j)) (hj : j < len) (hc : h.cell (q, j) = some (.int .i64 t))
    (e1 : evalFn F k 18 [.ptr (some (a, 0)), .int .i64 t] h = some (.int .i64 0, h1)) : ∃ fr', evalS (evalT F k) k jB fr h = some (.normal, fr', h1) ∧ ∀ t, t < 14 → fr'.get t = fr.get t := by
  have b1 : 0 ≤ (j : Int) ∧ (j : Int) < (len : Int) := by omega
  refine ⟨_, (by simp (maxSteps := 4000000) only [jB, S.fst, S.snd, S.inn, evalT_fn, BK.hid, cond_true, cond_false, guess0, List.tail_nil, List.headD_nil, evalS, evalOps, evalOp, evalO, wantedA, opd, opds, optOpd, optInt, putO, frameOf, T.get_set, T.get_nil, Option.map_some, Option.map_none, Nat.reduceEqDiff, if_true, if_false, reduceIte, reduceCtorEq, Nat.reduceAdd, resA, oneOrTuple, binA, binInt, eqA, lenA, capA, unA, partA, partsA, fillA_nil, sliceA, bounds_none, bounds_lo, bounds_hi, bounds_lohi, evalDreg_false, List.take_succ_cons, List.take_zero, List.take_nil, List.drop_zero, List.drop_succ_cons, List.drop_nil, AV.beq, eq_self, hoist, evalD, O.cls, readsOk, List.tail_cons, List.headD_cons, List.nil_append, List.cons_append, List.getLast?_cons_cons, List.getLast?_singleton, Nat.sub_zero, Int.toNat_natCast, ite_self, Nat.add_zero, Nat.zero_add, Nat.zero_mul, Option.isNone_none, Option.isNone_some, Option.isSome_none, Option.isSome_some, Int.reduceBEq, Int.reduceBNe, Int.reduceLT, Int.reduceLE, Int.reduceGT, Int.reduceGE, Int.reduceEq, decide_true, decide_false, Bool.not_true, Bool.not_false, Int.reduceMul, Int.reduceAdd, Int.reduceSub, Int.reduceToNat, Nat.reduceMul, Nat.reduceSub, Nat.reduceLT, Nat.reduceLeDiff, beq_self_eq_true, bne_self_eq_false, Bool.true_beq, Bool.false_beq, ne_eq, not_true_eq_false, not_false_eq_true, Bool.false_eq_true, Bool.or_self, or_self, AV.cells, AV.one, List.all_cons, List.all_nil, Bool.and_true, Bool.true_and, List.length_cons, List.length_nil, splice, List.set_cons_zero, List.set_cons_succ, Nat.le_refl, Nat.reduceLeDiff, iter_succ, readA, readK, loadA, List.getElem?_cons_zero, List.getElem?_cons_succ, Bool.and_self, and_self, and_true, true_and, s3_l2, g3, g5, g13, b1, hc, e1, Nat.mul_one]; rfl), fun t ht => ?_⟩
  have ne : ∀ j, 14 ≤ j → ¬ t = j := fun j hj => by omega
  simp only [T.get_set, ne 121 (by omega), ne 122 (by omega), ne 123 (by omega), ne 124 (by omega), ne 125 (by omega), ne 126 (by omega), ne 127 (by omega), if_false]

theorem jC_ok {j : Nat} (hj : j < 1000) (g13 : fr.get 13 = some (.int .i64 j)) {call : Lite.Callee} : ∃ fr', evalS call k jC fr h = some (.normal, fr', h) ∧ fr'.get 13 = some (.int .i64 ((j + 1 : Nat) : Int)) ∧ ∀ t, t < 13 → fr'.get t = fr.get t := by
  have w1 : IntKind.i64.wrap ((j : Int) + 1) = ((j + 1 : Nat) : Int) := by rw [wrap_id (by omega) (by omega)]; simp
  refine ⟨_, (by simp (maxSteps := 4000000) only [jC, S.fst, S.snd, S.inn, evalT_fn, BK.hid, cond_true, cond_false, guess0, List.tail_nil, List.headD_nil, evalS, evalOps, evalOp, evalO, wantedA, opd, opds, optOpd, optInt, putO, frameOf, T.get_set, T.get_nil, Option.map_some, Option.map_none, Nat.reduceEqDiff, if_true, if_false, reduceIte, reduceCtorEq, Nat.reduceAdd, resA, oneOrTuple, binA, binInt, eqA, lenA, capA, unA, partA, partsA, fillA_nil, sliceA, bounds_none, bounds_lo, bounds_hi, bounds_lohi, evalDreg_false, List.take_succ_cons, List.take_zero, List.take_nil, List.drop_zero, List.drop_succ_cons, List.drop_nil, AV.beq, eq_self, hoist, evalD, O.cls, readsOk, List.tail_cons, List.headD_cons, List.nil_append, List.cons_append, List.getLast?_cons_cons, List.getLast?_singleton, Nat.sub_zero, Int.toNat_natCast, ite_self, Nat.add_zero, Nat.zero_add, Nat.zero_mul, Option.isNone_none, Option.isNone_some, Option.isSome_none, Option.isSome_some, Int.reduceBEq, Int.reduceBNe, Int.reduceLT, Int.reduceLE, Int.reduceGT, Int.reduceGE, Int.reduceEq, decide_true, decide_false, Bool.not_true, Bool.not_false, Int.reduceMul, Int.reduceAdd, Int.reduceSub, Int.reduceToNat, Nat.reduceMul, Nat.reduceSub, Nat.reduceLT, Nat.reduceLeDiff, beq_self_eq_true, bne_self_eq_false, Bool.true_beq, Bool.false_beq, ne_eq, not_true_eq_false, not_false_eq_true, Bool.false_eq_true, Bool.or_self, or_self, AV.cells, AV.one, List.all_cons, List.all_nil, Bool.and_true, Bool.true_and, List.length_cons, List.length_nil, splice, List.set_cons_zero, List.set_cons_succ, Nat.le_refl, Nat.reduceLeDiff, iter_succ, readA, readK, loadA, List.getElem?_cons_zero, List.getElem?_cons_succ, Bool.and_self, and_self, and_true, true_and, s3_l2, g13, w1]; rfl), by simp [T.get_set], fun t ht => ?_⟩
  have ne : ∀ j, 13 ≤ j → ¬ t = j := fun j hj => by omega
  simp only [T.get_set, ne 13 (by omega), ne 119 (by omega), ne 120 (by omega), if_false]

/-- Between two rounds of ArenaEnds' second loop. -/
def DroI (told : List Int) (w : AV) (a : Nat) (bs qs : List Nat) (n : Nat) (fr : Fr) (h : Hp) : Prop :=
  ∃ (j : Nat) (S : St) (fs : List Nat), n = told.length - j ∧ j ≤ told.length ∧ fr.get 3 = some (.ptr (some (a, 0))) ∧ fr.get 5 = some w ∧ fr.get 13 = some (.int .i64 j) ∧ AAt h a 100 S bs fs ∧ ToldAt h w told qs ∧ (∀ z ∈ qs, z ∉ a :: (bs ++ fs)) ∧
    Acc (told.drop j) S ∧ Ord S ∧ S.length ≤ 60 ∧ total S ≤ 540 ∧ (∀ t ∈ told, 1 ≤ t)

theorem dro_step {told : List Int} {w : AV} {a : Nat} {bs qs : List Nat} (hk : 6000 < k) (htl : told.length ≤ 60) (n : Nat) (fr : Fr) (h : Hp) (I : DroI told w a bs qs n fr h) :
    (∃ n' fr' h', evalS (evalT F2 k) k s3_l2 fr h = some (.normal, fr', h') ∧ n' < n ∧ DroI told w a bs qs n' fr' h') ∨
    (∃ x fr' h', evalS (evalT F2 k) k s3_l2 fr h = some (x, fr', h') ∧ x ≠ .normal ∧ x = .exit 4 ∧ fr'.get 3 = some (.ptr (some (a, 0))) ∧ ∃ S fs, AAt h' a 100 S bs fs ∧ ∀ y, rf S y = 0) := by
  obtain ⟨j, S, fs, rfl, hj, g3, g5, g13, A, T, hd, hac, hor, hl, ht, hpos⟩ := I
  obtain ⟨base, cap, rfl, hcell⟩ := told_len T
  by_cases hlt : j < told.length
  · left
    have hx := List.getElem?_eq_getElem hlt
    have hdrop := List.drop_eq_getElem_cons hlt
    generalize told[j]'hlt = t at hx hdrop
    rw [hdrop] at hac
    have ht1 := hpos t (List.mem_of_getElem? hx)
    have hal := hac.alive (by omega)
    obtain ⟨q, rfl, hqs, hqn, hq⟩ := hcell j t hx
    obtain ⟨h1, S', fs', ed, A1, k1, hf1, hr⟩ := (drop_ok (n := k) A (by omega) (by omega) t).2 hal
    obtain ⟨fr1, e1, f1⟩ := jA_more (k := k) (h := h) (call := evalT F2 k) g5 g13 hlt
    obtain ⟨fr2, e2, f2⟩ := jB_ok (F := F2) (k := k) (h := h) (fr := fr1) (by rw [f1 3 (by omega)]; exact g3) (by rw [f1 5 (by omega)]; exact g5) (by rw [f1 13 (by omega)]; exact g13) hlt hq ed
    obtain ⟨fr3, e3, s13, f3⟩ := jC_ok (k := k) (h := h1) (fr := fr2) (call := evalT F2 k) (j := j) (by omega) (by rw [f2 13 (by omega), f1 13 (by omega)]; exact g13)
    have hrl := hr.length
    have hrt := hr.total
    refine ⟨told.length - (j + 1), fr3, h1, ?_, by omega, j + 1, S', fs', rfl, by omega, by rw [f3 3 (by omega), f2 3 (by omega), f1 3 (by omega)]; exact g3, by rw [f3 5 (by omega), f2 5 (by omega), f1 5 (by omega)]; exact g5, s13, A1, told_kept T k1 hd, fun z hz hh => ?_, hac.drop hr, Ord.runs hr hor, by omega, by omega, hpos⟩
    · rw [j_eq]
      simp only [evalS, e1, e2, e3]
    · simp only [List.mem_cons, List.mem_append] at hh
      rcases hh with e | e | e
      · exact hd z hz (by simp [e])
      · exact hd z hz (by simp [e])
      · rcases hf1 z e with e | e
        · exact hd z hz (by simp [e])
        · have := told_lt T z hz; omega
  · right
    obtain ⟨fr1, e1, f1⟩ := jA_end (k := k) (h := h) (call := evalT F2 k) g5 g13 hlt
    refine ⟨.exit 4, fr1, h, ?_, by simp, rfl, by rw [f1 3 (by omega)]; exact g3, S, fs, A, ?_⟩
    · rw [j_eq]
      simp only [evalS, e1]
    · rw [List.drop_eq_nil_of_le (by omega)] at hac
      exact hac.dead hor

def pA0 : S := s3.body
def pA1 : S := pA0.snd
def pA2 : S := pA1.snd
def pA3 : S := pA2.snd
def pA4 : S := pA3.snd
def pA5 : S := pA4.snd
def pA6 : S := pA5.snd
theorem p_eq : s3.body = .seq pA0.fst (.seq pA1.fst (.seq pA2.fst (.seq pA3.fst (.seq (.seq pA4.fst.fst (.block 0 (.loop s3_l1))) (.seq (.seq pA5.fst.fst (.block 4 (.loop s3_l2))) pA6))))) := rfl

theorem p0_ok {v : AV} {call : Lite.Callee} : ∃ fr', evalS call k pA0.fst (frameOf 0 [v]) h = some (.normal, fr', h) ∧ fr'.get 0 = some v := by
  refine ⟨_, (by simp (maxSteps := 4000000) only [pA0, S.fst, evalT_fn, BK.hid, cond_true, cond_false, guess0, List.tail_nil, List.headD_nil, evalS, evalOps, evalOp, evalO, wantedA, opd, opds, optOpd, optInt, putO, frameOf, T.get_set, T.get_nil, Option.map_some, Option.map_none, Nat.reduceEqDiff, if_true, if_false, reduceIte, reduceCtorEq, Nat.reduceAdd, resA, oneOrTuple, binA, binInt, eqA, lenA, capA, unA, partA, partsA, fillA_nil, sliceA, bounds_none, bounds_lo, bounds_hi, bounds_lohi, evalDreg_false, List.take_succ_cons, List.take_zero, List.take_nil, List.drop_zero, List.drop_succ_cons, List.drop_nil, AV.beq, eq_self, hoist, evalD, O.cls, readsOk, List.tail_cons, List.headD_cons, List.nil_append, List.cons_append, List.getLast?_cons_cons, List.getLast?_singleton, Nat.sub_zero, Int.toNat_natCast, ite_self, Nat.add_zero, Nat.zero_add, Nat.zero_mul, Option.isNone_none, Option.isNone_some, Option.isSome_none, Option.isSome_some, Int.reduceBEq, Int.reduceBNe, Int.reduceLT, Int.reduceLE, Int.reduceGT, Int.reduceGE, Int.reduceEq, decide_true, decide_false, Bool.not_true, Bool.not_false, Int.reduceMul, Int.reduceAdd, Int.reduceSub, Int.reduceToNat, Nat.reduceMul, Nat.reduceSub, Nat.reduceLT, Nat.reduceLeDiff, beq_self_eq_true, bne_self_eq_false, Bool.true_beq, Bool.false_beq, ne_eq, not_true_eq_false, not_false_eq_true, Bool.false_eq_true, Bool.or_self, or_self, AV.cells, AV.one, List.all_cons, List.all_nil, Bool.and_true, Bool.true_and, List.length_cons, List.length_nil, splice, List.set_cons_zero, List.set_cons_succ, Nat.le_refl, Nat.reduceLeDiff, iter_succ, readA, readK, loadA, List.getElem?_cons_zero, List.getElem?_cons_succ, Bool.and_self, and_self, and_true, true_and, s3]; rfl), by simp [T.get_set]⟩

theorem p1_ok {F : FuncId → Option Def} {a : Nat} {h1 : Hp} (e1 : evalFn F k 13 [.int .i64 100] h = some (.tuple [.ptr (some (a, 0)), .int .i64 0], h1)) :
    ∃ fr', evalS (evalT F k) k pA1.fst fr h = some (.normal, fr', h1) ∧ fr'.get 3 = some (.ptr (some (a, 0))) ∧ fr'.get 4 = some (.int .i64 0) ∧ fr'.get 0 = fr.get 0 := by
  refine ⟨_, (by simp (maxSteps := 4000000) only [pA1, pA0, S.fst, S.snd, evalT_fn, BK.hid, cond_true, cond_false, guess0, List.tail_nil, List.headD_nil, evalS, evalOps, evalOp, evalO, wantedA, opd, opds, optOpd, optInt, putO, frameOf, T.get_set, T.get_nil, Option.map_some, Option.map_none, Nat.reduceEqDiff, if_true, if_false, reduceIte, reduceCtorEq, Nat.reduceAdd, resA, oneOrTuple, binA, binInt, eqA, lenA, capA, unA, partA, partsA, fillA_nil, sliceA, bounds_none, bounds_lo, bounds_hi, bounds_lohi, evalDreg_false, List.take_succ_cons, List.take_zero, List.take_nil, List.drop_zero, List.drop_succ_cons, List.drop_nil, AV.beq, eq_self, hoist, evalD, O.cls, readsOk, List.tail_cons, List.headD_cons, List.nil_append, List.cons_append, List.getLast?_cons_cons, List.getLast?_singleton, Nat.sub_zero, Int.toNat_natCast, ite_self, Nat.add_zero, Nat.zero_add, Nat.zero_mul, Option.isNone_none, Option.isNone_some, Option.isSome_none, Option.isSome_some, Int.reduceBEq, Int.reduceBNe, Int.reduceLT, Int.reduceLE, Int.reduceGT, Int.reduceGE, Int.reduceEq, decide_true, decide_false, Bool.not_true, Bool.not_false, Int.reduceMul, Int.reduceAdd, Int.reduceSub, Int.reduceToNat, Nat.reduceMul, Nat.reduceSub, Nat.reduceLT, Nat.reduceLeDiff, beq_self_eq_true, bne_self_eq_false, Bool.true_beq, Bool.false_beq, ne_eq, not_true_eq_false, not_false_eq_true, Bool.false_eq_true, Bool.or_self, or_self, AV.cells, AV.one, List.all_cons, List.all_nil, Bool.and_true, Bool.true_and, List.length_cons, List.length_nil, splice, List.set_cons_zero, List.set_cons_succ, Nat.le_refl, Nat.reduceLeDiff, iter_succ, readA, readK, loadA, List.getElem?_cons_zero, List.getElem?_cons_succ, Bool.and_self, and_self, and_true, true_and, s3, e1]; rfl), by simp [T.get_set], by simp [T.get_set], by simp [T.get_set]⟩

theorem p2_ok {a : Nat} (g3 : fr.get 3 = some (.ptr (some (a, 0)))) (g4 : fr.get 4 = some (.int .i64 0)) {call : Lite.Callee} : ∃ fr', evalS call k pA2.fst fr h = some (.normal, fr', h) ∧ ∀ t, t < 14 → fr'.get t = fr.get t := by
  refine ⟨_, (by simp (maxSteps := 4000000) only [pA2, pA1, pA0, S.fst, S.snd, evalT_fn, BK.hid, cond_true, cond_false, guess0, List.tail_nil, List.headD_nil, evalS, evalOps, evalOp, evalO, wantedA, opd, opds, optOpd, optInt, putO, frameOf, T.get_set, T.get_nil, Option.map_some, Option.map_none, Nat.reduceEqDiff, if_true, if_false, reduceIte, reduceCtorEq, Nat.reduceAdd, resA, oneOrTuple, binA, binInt, eqA, lenA, capA, unA, partA, partsA, fillA_nil, sliceA, bounds_none, bounds_lo, bounds_hi, bounds_lohi, evalDreg_false, List.take_succ_cons, List.take_zero, List.take_nil, List.drop_zero, List.drop_succ_cons, List.drop_nil, AV.beq, eq_self, hoist, evalD, O.cls, readsOk, List.tail_cons, List.headD_cons, List.nil_append, List.cons_append, List.getLast?_cons_cons, List.getLast?_singleton, Nat.sub_zero, Int.toNat_natCast, ite_self, Nat.add_zero, Nat.zero_add, Nat.zero_mul, Option.isNone_none, Option.isNone_some, Option.isSome_none, Option.isSome_some, Int.reduceBEq, Int.reduceBNe, Int.reduceLT, Int.reduceLE, Int.reduceGT, Int.reduceGE, Int.reduceEq, decide_true, decide_false, Bool.not_true, Bool.not_false, Int.reduceMul, Int.reduceAdd, Int.reduceSub, Int.reduceToNat, Nat.reduceMul, Nat.reduceSub, Nat.reduceLT, Nat.reduceLeDiff, beq_self_eq_true, bne_self_eq_false, Bool.true_beq, Bool.false_beq, ne_eq, not_true_eq_false, not_false_eq_true, Bool.false_eq_true, Bool.or_self, or_self, AV.cells, AV.one, List.all_cons, List.all_nil, Bool.and_true, Bool.true_and, List.length_cons, List.length_nil, splice, List.set_cons_zero, List.set_cons_succ, Nat.le_refl, Nat.reduceLeDiff, iter_succ, readA, readK, loadA, List.getElem?_cons_zero, List.getElem?_cons_succ, Bool.and_self, and_self, and_true, true_and, s3, g3, g4]; rfl), fun t ht => ?_⟩
  have ne : ∀ j, 14 ≤ j → ¬ t = j := fun j hj => by omega
  simp only [T.get_set, ne 18 (by omega), ne 19 (by omega), ne 20 (by omega), ne 21 (by omega), ne 22 (by omega), ne 23 (by omega), if_false]

theorem p3_ok {call : Lite.Callee} : ∃ fr', evalS call k pA3.fst fr h = some (.normal, fr', h) ∧ fr'.get 5 = some (.slice none 0 (.known 0)) ∧ ∀ t, t < 5 → fr'.get t = fr.get t := by
  refine ⟨_, (by simp (maxSteps := 4000000) only [pA3, pA2, pA1, pA0, S.fst, S.snd, evalT_fn, BK.hid, cond_true, cond_false, guess0, List.tail_nil, List.headD_nil, evalS, evalOps, evalOp, evalO, wantedA, opd, opds, optOpd, optInt, putO, frameOf, T.get_set, T.get_nil, Option.map_some, Option.map_none, Nat.reduceEqDiff, if_true, if_false, reduceIte, reduceCtorEq, Nat.reduceAdd, resA, oneOrTuple, binA, binInt, eqA, lenA, capA, unA, partA, partsA, fillA_nil, sliceA, bounds_none, bounds_lo, bounds_hi, bounds_lohi, evalDreg_false, List.take_succ_cons, List.take_zero, List.take_nil, List.drop_zero, List.drop_succ_cons, List.drop_nil, AV.beq, eq_self, hoist, evalD, O.cls, readsOk, List.tail_cons, List.headD_cons, List.nil_append, List.cons_append, List.getLast?_cons_cons, List.getLast?_singleton, Nat.sub_zero, Int.toNat_natCast, ite_self, Nat.add_zero, Nat.zero_add, Nat.zero_mul, Option.isNone_none, Option.isNone_some, Option.isSome_none, Option.isSome_some, Int.reduceBEq, Int.reduceBNe, Int.reduceLT, Int.reduceLE, Int.reduceGT, Int.reduceGE, Int.reduceEq, decide_true, decide_false, Bool.not_true, Bool.not_false, Int.reduceMul, Int.reduceAdd, Int.reduceSub, Int.reduceToNat, Nat.reduceMul, Nat.reduceSub, Nat.reduceLT, Nat.reduceLeDiff, beq_self_eq_true, bne_self_eq_false, Bool.true_beq, Bool.false_beq, ne_eq, not_true_eq_false, not_false_eq_true, Bool.false_eq_true, Bool.or_self, or_self, AV.cells, AV.one, List.all_cons, List.all_nil, Bool.and_true, Bool.true_and, List.length_cons, List.length_nil, splice, List.set_cons_zero, List.set_cons_succ, Nat.le_refl, Nat.reduceLeDiff, iter_succ, readA, readK, loadA, List.getElem?_cons_zero, List.getElem?_cons_succ, Bool.and_self, and_self, and_true, true_and, s3]; rfl), by simp [T.get_set], fun t ht => ?_⟩
  simp only [T.get_set, show ¬ t = 5 by omega, if_false]

theorem p4_ok {call : Lite.Callee} : ∃ fr', evalS call k pA4.fst.fst fr h = some (.normal, fr', h) ∧ fr'.get 6 = some (.int .i64 0) ∧ ∀ t, t < 6 → fr'.get t = fr.get t := by
  refine ⟨_, (by simp (maxSteps := 4000000) only [pA4, pA3, pA2, pA1, pA0, S.fst, S.snd, evalT_fn, BK.hid, cond_true, cond_false, guess0, List.tail_nil, List.headD_nil, evalS, evalOps, evalOp, evalO, wantedA, opd, opds, optOpd, optInt, putO, frameOf, T.get_set, T.get_nil, Option.map_some, Option.map_none, Nat.reduceEqDiff, if_true, if_false, reduceIte, reduceCtorEq, Nat.reduceAdd, resA, oneOrTuple, binA, binInt, eqA, lenA, capA, unA, partA, partsA, fillA_nil, sliceA, bounds_none, bounds_lo, bounds_hi, bounds_lohi, evalDreg_false, List.take_succ_cons, List.take_zero, List.take_nil, List.drop_zero, List.drop_succ_cons, List.drop_nil, AV.beq, eq_self, hoist, evalD, O.cls, readsOk, List.tail_cons, List.headD_cons, List.nil_append, List.cons_append, List.getLast?_cons_cons, List.getLast?_singleton, Nat.sub_zero, Int.toNat_natCast, ite_self, Nat.add_zero, Nat.zero_add, Nat.zero_mul, Option.isNone_none, Option.isNone_some, Option.isSome_none, Option.isSome_some, Int.reduceBEq, Int.reduceBNe, Int.reduceLT, Int.reduceLE, Int.reduceGT, Int.reduceGE, Int.reduceEq, decide_true, decide_false, Bool.not_true, Bool.not_false, Int.reduceMul, Int.reduceAdd, Int.reduceSub, Int.reduceToNat, Nat.reduceMul, Nat.reduceSub, Nat.reduceLT, Nat.reduceLeDiff, beq_self_eq_true, bne_self_eq_false, Bool.true_beq, Bool.false_beq, ne_eq, not_true_eq_false, not_false_eq_true, Bool.false_eq_true, Bool.or_self, or_self, AV.cells, AV.one, List.all_cons, List.all_nil, Bool.and_true, Bool.true_and, List.length_cons, List.length_nil, splice, List.set_cons_zero, List.set_cons_succ, Nat.le_refl, Nat.reduceLeDiff, iter_succ, readA, readK, loadA, List.getElem?_cons_zero, List.getElem?_cons_succ, Bool.and_self, and_self, and_true, true_and, s3]; rfl), by simp [T.get_set], fun t ht => ?_⟩
  simp only [T.get_set, show ¬ t = 6 by omega, if_false]

theorem p5_ok {call : Lite.Callee} : ∃ fr', evalS call k pA5.fst.fst fr h = some (.normal, fr', h) ∧ fr'.get 13 = some (.int .i64 0) ∧ ∀ t, t < 13 → fr'.get t = fr.get t := by
  refine ⟨_, (by simp (maxSteps := 4000000) only [pA5, pA4, pA3, pA2, pA1, pA0, S.fst, S.snd, evalT_fn, BK.hid, cond_true, cond_false, guess0, List.tail_nil, List.headD_nil, evalS, evalOps, evalOp, evalO, wantedA, opd, opds, optOpd, optInt, putO, frameOf, T.get_set, T.get_nil, Option.map_some, Option.map_none, Nat.reduceEqDiff, if_true, if_false, reduceIte, reduceCtorEq, Nat.reduceAdd, resA, oneOrTuple, binA, binInt, eqA, lenA, capA, unA, partA, partsA, fillA_nil, sliceA, bounds_none, bounds_lo, bounds_hi, bounds_lohi, evalDreg_false, List.take_succ_cons, List.take_zero, List.take_nil, List.drop_zero, List.drop_succ_cons, List.drop_nil, AV.beq, eq_self, hoist, evalD, O.cls, readsOk, List.tail_cons, List.headD_cons, List.nil_append, List.cons_append, List.getLast?_cons_cons, List.getLast?_singleton, Nat.sub_zero, Int.toNat_natCast, ite_self, Nat.add_zero, Nat.zero_add, Nat.zero_mul, Option.isNone_none, Option.isNone_some, Option.isSome_none, Option.isSome_some, Int.reduceBEq, Int.reduceBNe, Int.reduceLT, Int.reduceLE, Int.reduceGT, Int.reduceGE, Int.reduceEq, decide_true, decide_false, Bool.not_true, Bool.not_false, Int.reduceMul, Int.reduceAdd, Int.reduceSub, Int.reduceToNat, Nat.reduceMul, Nat.reduceSub, Nat.reduceLT, Nat.reduceLeDiff, beq_self_eq_true, bne_self_eq_false, Bool.true_beq, Bool.false_beq, ne_eq, not_true_eq_false, not_false_eq_true, Bool.false_eq_true, Bool.or_self, or_self, AV.cells, AV.one, List.all_cons, List.all_nil, Bool.and_true, Bool.true_and, List.length_cons, List.length_nil, splice, List.set_cons_zero, List.set_cons_succ, Nat.le_refl, Nat.reduceLeDiff, iter_succ, readA, readK, loadA, List.getElem?_cons_zero, List.getElem?_cons_succ, Bool.and_self, and_self, and_true, true_and, s3]; rfl), by simp [T.get_set], fun t ht => ?_⟩
  simp only [T.get_set, show ¬ t = 13 by omega, if_false]

theorem p6_ok {a : Nat} (hk : 0 < k) (g3 : fr.get 3 = some (.ptr (some (a, 0)))) (e1 : evalFn F2 k 19 [.ptr (some (a, 0))] h = some (.int .i64 0, h)) : ∃ fr', evalS (evalT F2 k) k pA6 fr h = some (.ret, fr', h) ∧ fr'.get 2 = some (.bool true) := by
  have e3 : evalFn F2 k 20 [] h = some (.bool true, h) := by rw [evalFn_prim' F2_known9 hk]; rfl
  refine ⟨_, (by simp (maxSteps := 4000000) only [pA6, pA5, pA4, pA3, pA2, pA1, pA0, S.fst, S.snd, evalT_fn, BK.hid, cond_true, cond_false, guess0, List.tail_nil, List.headD_nil, evalS, evalOps, evalOp, evalO, wantedA, opd, opds, optOpd, optInt, putO, frameOf, T.get_set, T.get_nil, Option.map_some, Option.map_none, Nat.reduceEqDiff, if_true, if_false, reduceIte, reduceCtorEq, Nat.reduceAdd, resA, oneOrTuple, binA, binInt, eqA, lenA, capA, unA, partA, partsA, fillA_nil, sliceA, bounds_none, bounds_lo, bounds_hi, bounds_lohi, evalDreg_false, List.take_succ_cons, List.take_zero, List.take_nil, List.drop_zero, List.drop_succ_cons, List.drop_nil, AV.beq, eq_self, hoist, evalD, O.cls, readsOk, List.tail_cons, List.headD_cons, List.nil_append, List.cons_append, List.getLast?_cons_cons, List.getLast?_singleton, Nat.sub_zero, Int.toNat_natCast, ite_self, Nat.add_zero, Nat.zero_add, Nat.zero_mul, Option.isNone_none, Option.isNone_some, Option.isSome_none, Option.isSome_some, Int.reduceBEq, Int.reduceBNe, Int.reduceLT, Int.reduceLE, Int.reduceGT, Int.reduceGE, Int.reduceEq, decide_true, decide_false, Bool.not_true, Bool.not_false, Int.reduceMul, Int.reduceAdd, Int.reduceSub, Int.reduceToNat, Nat.reduceMul, Nat.reduceSub, Nat.reduceLT, Nat.reduceLeDiff, beq_self_eq_true, bne_self_eq_false, Bool.true_beq, Bool.false_beq, ne_eq, not_true_eq_false, not_false_eq_true, Bool.false_eq_true, Bool.or_self, or_self, AV.cells, AV.one, List.all_cons, List.all_nil, Bool.and_true, Bool.true_and, List.length_cons, List.length_nil, splice, List.set_cons_zero, List.set_cons_succ, Nat.le_refl, Nat.reduceLeDiff, iter_succ, readA, readK, loadA, List.getElem?_cons_zero, List.getElem?_cons_succ, Bool.and_self, and_self, and_true, true_and, s3, g3, e1, e3]; rfl), by simp [T.get_set]⟩
end

theorem ends_run (acts : List ActV) (base : Option (Nat × Nat)) (cap : Cap) (q : Nat) (h : Hp) (hq : acts ≠ [] → base = some (q, 0) ∧ h.get q = some ⟨acts.flatMap actC, .ro⟩ ∧ q < h.next) :
    ∃ h', evalFn F2 7001 3 [.slice base acts.length cap] h = some (.bool true, h') := by
  obtain ⟨fr0, e0, a0⟩ := p0_ok (k := 7000) (h := h) (v := .slice base acts.length cap) (call := evalT F2 7000)
  obtain ⟨h1, en, A1, k1, n1⟩ := arenaNew_ok (n := 7000) (by omega) (h := h) 100 (by omega) (by omega)
  obtain ⟨fr1, e1, b3, b4, b0⟩ := p1_ok (F := F2) (fr := fr0) en
  obtain ⟨fr2, e2, c⟩ := p2_ok (k := 7000) (h := h1) (call := evalT F2 7000) b3 b4
  obtain ⟨fr3, e3, d5, d⟩ := p3_ok (k := 7000) (h := h1) (fr := fr2) (call := evalT F2 7000)
  obtain ⟨fr4, e4, f6, f⟩ := p4_ok (k := 7000) (h := h1) (fr := fr3) (call := evalT F2 7000)
  have J0 : EndsP [] 0 [] := ⟨fun x _ => by simp [rf, at?, asks], fun j y hy => by simp at hy, rfl, by simp, by simp [total], by simp, fun t ht => by cases ht⟩
  have hI : EndI acts base cap q h.next 60 fr4 h1 := by
    refine ⟨0, [], [], [], [], [], _, rfl, by omega, ?_, ?_, by rw [f 5 (by omega)]; exact d5, f6, A1, ⟨rfl, rfl⟩, fun z hz => (by cases hz), J0, fun hne => ?_⟩
    · rw [f 0 (by omega), d 0 (by omega), c 0 (by omega), b0]; exact a0
    · rw [f 3 (by omega), d 3 (by omega), c 3 (by omega)]; exact b3
    · obtain ⟨r1, r2, r3⟩ := hq hne
      exact ⟨r1, by rw [k1.2 q r3 (by simp)]; exact r2, by omega, by simp <;> omega, by simp⟩
  obtain ⟨xx, fr5, h5, hit, _, rfl, n', i, S, bs, fs, qs, told, w, _, hi, _, g3, g5, _, A, TT, hd, J, _⟩ := iter_inv (body := evalS (evalT F2 7000) 7000 s3_l1) (EndI acts base cap q h.next) _
    (fun n fr h I => end_step (k := 7000) (by omega) n fr h I) 7000 60 fr4 h1 (by omega) hI
  obtain ⟨fr6, e6, s13, g⟩ := p5_ok (k := 7000) (h := h5) (fr := fr5) (call := evalT F2 7000)
  have hl := J.len
  have ht := J.tot
  have htd := J.tl
  obtain ⟨yy, fr7, h7, hit2, _, rfl, u3, S7, fs7, A7, hz⟩ := iter_inv (body := evalS (evalT F2 7000) 7000 s3_l2) (DroI told w h.next bs qs) _
    (fun n fr h I => dro_step (k := 7000) (by omega) (by omega) n fr h I) 7000 told.length fr6 h5 (by omega) ⟨0, S, fs, by simp, by omega, by rw [g 3 (by omega)]; exact g3, by rw [g 5 (by omega)]; exact g5, s13, A, TT, hd, by simpa using J.acc, J.ord, by omega, by omega, fun t ht => (J.pos t ht).1⟩
  have eu := used_at (n := 7000) (by omega) A7
  rw [freeOf_all hz, Int.sub_self] at eu
  obtain ⟨fr8, e8, r2⟩ := p6_ok (k := 7000) (h := h7) (fr := fr7) (by omega) u3 eu
  refine ⟨h7, ?_⟩
  rw [evalFn_text F2_ends, p_eq]
  simp only [evalS, e0, e1, e2, e3, e4, hit, if_true, e6, hit2, e8]
  simp only [s3, evalT_fn, BK.hid, cond_true, cond_false, guess0, List.tail_nil, List.headD_nil, evalS, evalOps, evalOp, evalO, wantedA, opd, opds, optOpd, optInt, putO, frameOf, T.get_set, T.get_nil, Option.map_some, Option.map_none, Nat.reduceEqDiff, if_true, if_false, reduceIte, reduceCtorEq, Nat.reduceAdd, resA, oneOrTuple, binA, binInt, eqA, lenA, capA, unA, partA, partsA, fillA, sliceA, bounds_none, bounds_lo, bounds_hi, bounds_lohi, evalDreg_false, List.take_succ_cons, List.take_zero, List.take_nil, List.drop_zero, List.drop_succ_cons, List.drop_nil, AV.beq, eq_self, hoist, evalD, O.cls, readsOk, List.tail_cons, List.headD_cons, List.nil_append, List.cons_append, List.getLast?_cons_cons, List.getLast?_singleton, Nat.sub_zero, Int.toNat_natCast, ite_self, Nat.add_zero, Nat.zero_add, Nat.zero_mul, r2]

end Go.Proofs.Ytchffjnmkpedkaa
