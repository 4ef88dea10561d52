/-
  'slices.Insert' at ints: what the evaluator takes as one step is what the function's own text comes to, whatever the capacity. Own work of this session.
-/
import Derived.Test.YtchffjnmkpedkaaFn
import Derived.Test.YtchffjnmkpedkaaLv
import Derived.Lib.Overlaps
set_option linter.unusedSectionVars false
set_option linter.unusedSimpArgs false
set_option linter.unusedVariables false
namespace Go.Proofs.Ytchffjnmkpedkaa
set_option linter.unusedSectionVars false
open Go.Lite Go.RowKit
set_option linter.unusedVariables false
set_option linter.unusedSimpArgs false
set_option maxHeartbeats 4000000
set_option maxRecDepth 10000

/-! ### The text, carried out -/
theorem ins_grow (F : FuncId → Option Def) (hF : F 61 = some (.text s61)) (k : Nat) (h : Hp) (b o n c m i vb vo mc : Nat) (hm0 : 0 < m) (hi : i < n) (hnc : n ≤ c) (hgt : c < n + m) (hbig : n + m ≤ 17592186044416)
   (s2 : Nat) (h1 h2 h3 : Hp) (more tail : List AV)
   (hA : appendZA h 8 [.int .i64 0] (.slice (some (b, o)) i (.known c)) (n + m - i : Int) = some (.slice (some (s2, 0)) (n + m) (.more 1), h1))
   (hB : h1.cells (vb, vo) (m * 1) = some more) (hB2 : h1.write (s2, i * 1) more = some h2)
   (hC : h2.cells (b, o + i * 1) ((n - i) * 1) = some tail) (hC2 : h2.write (s2, (i + m) * 1) tail = some h3) :
    evalFn F (k + 1) 61 [.slice (some (b, o)) n (.known c), .int .i64 i, .slice (some (vb, vo)) m (.known mc)] h = some (.slice (some (s2, 0)) (n + m) (.more 1), h3) := by
  have e1 : (0 : Int) ≤ i ∧ (i : Int) ≤ n := by omega
  have e2 : (0 : Int) ≤ i ∧ (i : Int) ≤ c := by omega
  have e3 : (0 : Int) ≤ i ∧ (i : Int) ≤ (n + m : Nat) := by omega
  have e4 : (0 : Int) ≤ (i : Int) + (m : Int) ∧ (i : Int) + (m : Int) ≤ (n + m : Nat) := by omega
  have hm1 : ((m : Int) == 0) = false := by simp; omega
  have hin : ((i : Int) == (n : Int)) = false := by simp; omega
  have w1 : IntKind.i64.wrap ((n : Int) + (m : Int)) = n + m := wrap_id (by omega) (by omega)
  have w3 : IntKind.i64.wrap ((i : Int) + (m : Int)) = i + m := wrap_id (by omega) (by omega)
  have w2 : IntKind.i64.wrap ((n : Int) + (m : Int) - (i : Int)) = n + m - i := wrap_id (by omega) (by omega)
  have g1 : decide ((n : Int) + (m : Int) > (c : Int)) = true := by simp; omega
  have m1 : Nat.min m (n + m - i) = m := Nat.min_eq_left (by omega)
  have m2 : Nat.min (n - i) (n + m - (i + m)) = n - i := by rw [show n + m - (i + m) = n - i by omega]; exact Nat.min_eq_left (Nat.le_refl _)
  have t1 : ((i : Int) + (m : Int)).toNat = i + m := by omega
  have c1 : ¬ c = i := by omega
  simp only [evalFn_text hF, evalT_fn, BK.hid, evalS, evalOps, evalOp, evalO, wantedA, opd, opds, optOpd, optInt, putO, frameOf, T.get_set, T.get_nil, Option.map_some, Option.map_none, Nat.reduceEqDiff, if_true, if_false, reduceIte, reduceCtorEq, Nat.reduceAdd, resA, oneOrTuple, binA, binInt, eqA, lenA, capA, unA, partA, partsA, fillA, sliceA, bounds_none, bounds_lo, bounds_hi, bounds_lohi, evalDreg, hoist, evalD, O.cls, readsOk, List.tail_cons, List.headD_cons, List.nil_append, List.cons_append, List.getLast?_cons_cons, List.getLast?_singleton, Nat.sub_zero, Int.toNat_natCast, ite_self, Nat.add_zero, Nat.zero_add, Nat.zero_mul, s61, e1, e2, e3, e4, and_self, hm1, hin, beq_self_eq_true, w1, w2, w3, g1, hA, lenOfA, firstA, m1, m2, t1, hB, hB2, hC, hC2, if_neg c1]

theorem ins_shift (F : FuncId → Option Def) (hF : F 61 = some (.text s61)) (k : Nat) (h : Hp) (b o n c m i vb vo mc : Nat) (hm0 : 0 < m) (hi : i < n) (hnc : n ≤ c) (hgt : n + m ≤ c) (hbig : n + m ≤ 17592186044416)
   (h1 h2 : Hp) (more tail : List AV)
   (hov : evalFn F k 67 [.slice (some (vb, vo)) m (.known mc), .slice (some (b, o + (i + m) * 1)) (n + m - (i + m)) (.known (c - (i + m)))] h = some (.bool false, h))
   (hB : h.cells (b, o + i * 1) ((n - i) * 1) = some tail) (hB2 : h.write (b, o + (i + m) * 1) tail = some h1)
   (hC : h1.cells (vb, vo) (m * 1) = some more) (hC2 : h1.write (b, o + i * 1) more = some h2) :
    evalFn F (k + 1) 61 [.slice (some (b, o)) n (.known c), .int .i64 i, .slice (some (vb, vo)) m (.known mc)] h = some (.slice (some (b, o)) (n + m) (.known c), h2) := by
  have e1 : (0 : Int) ≤ i ∧ (i : Int) ≤ n := by omega
  have e2 : (0 : Int) ≤ (n : Int) + (m : Int) ∧ (n : Int) + (m : Int) ≤ c := by omega
  have e3 : (0 : Int) ≤ i ∧ (i : Int) ≤ (n + m : Nat) := by omega
  have e4 : (0 : Int) ≤ (i : Int) + (m : Int) ∧ (i : Int) + (m : Int) ≤ (n + m : Nat) := by omega
  have hm1 : ((m : Int) == 0) = false := by simp; omega
  have hin : ((i : Int) == (n : Int)) = false := by simp; omega
  have w1 : IntKind.i64.wrap ((n : Int) + (m : Int)) = n + m := wrap_id (by omega) (by omega)
  have w3 : IntKind.i64.wrap ((i : Int) + (m : Int)) = i + m := wrap_id (by omega) (by omega)
  have g1 : decide ((n : Int) + (m : Int) > (c : Int)) = false := by simp; omega
  have m1 : Nat.min m (n + m - i) = m := Nat.min_eq_left (by omega)
  have m2 : Nat.min (n + m - i) (n + m - (i + m)) = n - i := by rw [show n + m - (i + m) = n - i by omega]; exact Nat.min_eq_right (by omega)
  have t1 : ((i : Int) + (m : Int)).toNat = i + m := by omega
  have t2 : ((n : Int) + (m : Int)).toNat = n + m := by omega
  have c1 : ¬ c = i := by omega
  have c2 : ¬ c = i + m := by omega
  have c3 : ¬ c = 0 := by omega
  simp only [evalFn_text hF, evalT_fn, BK.hid, evalS, evalOps, evalOp, evalO, wantedA, opd, opds, optOpd, optInt, putO, frameOf, T.get_set, T.get_nil, Option.map_some, Option.map_none, Nat.reduceEqDiff, if_true, if_false, reduceIte, reduceCtorEq, Nat.reduceAdd, resA, oneOrTuple, binA, binInt, eqA, lenA, capA, unA, partA, partsA, fillA, sliceA, bounds_none, bounds_lo, bounds_hi, bounds_lohi, evalDreg, hoist, evalD, O.cls, readsOk, List.tail_cons, List.headD_cons, List.nil_append, List.cons_append, List.getLast?_cons_cons, List.getLast?_singleton, Nat.sub_zero, Int.toNat_natCast, ite_self, Nat.add_zero, Nat.zero_add, Nat.zero_mul, s61, e1, e2, e3, e4, and_self, hm1, hin, beq_self_eq_true, w1, w3, g1, lenOfA, firstA, m1, m2, t1, t2, hB, hB2, hC, hC2, if_neg c1, if_neg c2, if_neg c3, hov, Bool.not_false]

theorem ins_end (F : FuncId → Option Def) (hF : F 61 = some (.text s61)) (k : Nat) (h : Hp) (base : Option (Nat × Nat)) (n m : Nat) (cap mc : Cap) (vb : Option (Nat × Nat)) (r : AV × Hp) (hm0 : ¬ m = 0) (x : AV)
    (hs : sliceA (.slice 1) (.slice base n cap) (some n) none none = some x)
   (hr : appendA h 1 8 (.slice base n cap) (.slice vb m mc) = some r) :
    evalFn F (k + 1) 61 [.slice base n cap, .int .i64 n, .slice vb m mc] h = some r := by
  have hm1 : ((m : Int) == 0) = false := by simp; omega
  simp only [evalFn_text hF, evalS, evalOps, evalOp, evalO, wantedA, opd, opds, optOpd, optInt, putO, frameOf, T.get_set, T.get_nil, Option.map_some, Option.map_none, Nat.reduceEqDiff, if_true, if_false, reduceIte, reduceCtorEq, Nat.reduceAdd,
    s61, hs, lenA, binA, binInt, hm1, beq_self_eq_true, hr, resA, oneOrTuple]

/-! ### The memory -/
theorem splice_eq : ∀ (vs l : List AV) (o : Nat), o + vs.length ≤ l.length → splice l o vs = l.take o ++ vs ++ l.drop (o + vs.length)
  | [], l, o, _ => by simp [splice]
  | v :: vs, l, o, h => by
    simp only [List.length_cons] at h
    simp only [splice]
    rw [splice_eq vs (l.set o v) (o + 1) (by simp; omega)]
    rw [List.drop_set_of_lt (by omega)]
    have : (l.set o v).take (o + 1) = l.take o ++ [v] := by
      rw [List.take_set, List.take_succ_eq_append_getElem (by omega), List.set_append]
      simp [Nat.min_eq_left (show o ≤ l.length by omega)]
    rw [this]
    simp [Nat.add_assoc, Nat.add_comm 1]

/-- A block whose capacity is not known, opened to its end. -/
def opened (blk : Blk) (l : Go.Lite.Loc) : Blk := ⟨blk.cells ++ List.replicate (l.tot - l.base - blk.cells.length) .junk, .own⟩

theorem reveal {ρ : Ren} {h : Hp} {w : World} (H : HRel ρ h w) {b : Nat} {blk : Blk} {l : Go.Lite.Loc} (hk : h.get b = some blk) (hro : blk.kind ≠ .ro) (hkm : ¬ blk.kind.hid = true) (hl : ρ b = some l) :
    HRel ρ (h.put b (opened blk l)) w ∧ ∀ ρ' h' w', Step ρ (h.put b (opened blk l)) w ρ' h' w' → Step ρ h w ρ' h' w' := by
  have hown : ∀ r, Owned ρ (h.put b (opened blk l)) r → Owned ρ h r := by
    rintro r ⟨b', k', l', e1, e2, e3, e4⟩
    rw [Hp.get_put] at e1
    by_cases hb : b' = b
    · subst hb; exact ⟨b', blk, l', hk, hro, e3, e4⟩
    · rw [if_neg hb] at e1; exact ⟨b', k', l', e1, e2, e3, e4⟩
  have hown2 : ∀ r, Owned ρ h r → Owned ρ (h.put b (opened blk l)) r := by
    rintro r ⟨b', k', l', e1, e2, e3, e4⟩
    by_cases hb : b' = b
    · subst hb; exact ⟨b', opened blk l, l', by rw [Hp.get_put, if_pos rfl], by simp [opened], e3, e4⟩
    · exact ⟨b', k', l', by rw [Hp.get_put, if_neg hb]; exact e1, e2, e3, e4⟩
  refine ⟨⟨?_, ?_, H.dom⟩, ?_⟩
  · intro b' k' l' e1 e2
    rw [Hp.get_put] at e1
    by_cases hb : b' = b
    · subst hb
      rw [if_pos rfl] at e1; cases e1
      rw [hl] at e2; cases e2
      obtain ⟨c, e, z, h1, h2, h3, h4⟩ := (H.blk b' blk l hk hl).1 hkm
      refine BlkRel.flat rfl ⟨c, e, z, h1, h2, fun _ => h3 hro, ?_⟩
      intro i v hv
      simp only [opened] at hv
      rw [List.getElem?_append] at hv
      split at hv
      · exact h4 i v hv
      · rename_i hi
        rw [List.getElem?_replicate] at hv
        split at hv
        · cases hv
          have : l.base + i < c.size := by omega
          exact ⟨c[l.base + i], by simp [this], .junk _⟩
        · cases hv
    · rw [if_neg hb] at e1
      exact H.blk b' k' l' e1 e2
  · intro b1 b2 k1 k2 l1 l2 e1 e2 hr1 e3 e4 hrow
    rw [Hp.get_put] at e1 e2
    by_cases hb1 : b1 = b <;> by_cases hb2 : b2 = b
    · rw [hb1, hb2]
    · subst hb1; rw [if_neg hb2] at e2; exact H.one b1 b2 blk k2 l1 l2 hk e2 hro e3 e4 hrow
    · subst hb2; rw [if_neg hb1] at e1; exact H.one b1 b2 k1 blk l1 l2 e1 hk hr1 e3 e4 hrow
    · rw [if_neg hb1] at e1; rw [if_neg hb2] at e2; exact H.one b1 b2 k1 k2 l1 l2 e1 e2 hr1 e3 e4 hrow
  · intro ρ' h' w' s
    refine ⟨s.le, s.new, s.next, s.os, s.tape, s.output, s.size, fun r hr ho => s.rows r hr (fun hh => ho (hown r hh)), fun r hr ho => hown r (s.own r hr ho), ?_, ?_⟩
    · intro x hx e
      rw [s.rest x hx e, Hp.get_put, if_neg (by intro hh; rw [hh, hl] at e; cases e)]
    · intro x k hx e e2
      have := s.ro x k hx e e2
      rw [Hp.get_put] at this
      split at this
      · cases this; simp [opened] at e2
      · exact this

/-- A block is given up. -/
theorem kill_ok {ρ : Ren} {h : Hp} {w : World} (H : HRel ρ h w) {b : Nat} {l : Go.Lite.Loc} (hl : ρ b = some l) : HRel ρ (h.kill b) w ∧ Step ρ h w ρ (h.kill b) w := by
  have hk : ∀ x k, (h.kill b).get x = some k → h.get x = some k := by
    intro x k e
    rw [Hp.get_kill] at e
    split at e
    · cases e
    · exact e
  refine ⟨⟨fun x k l e1 e2 => H.blk x k l (hk _ _ e1) e2, fun x y k k' l l' e1 e2 => H.one x y k k' l l' (hk _ _ e1) (hk _ _ e2), H.dom⟩, ?_⟩
  refine ⟨Ren.le_refl _, fun x l e e' => (by rw [e] at e'; cases e'), Nat.le_refl _, rfl, rfl, rfl, Nat.le_refl _, fun _ _ _ => rfl, fun r _ ⟨x, k, l, e1, e2⟩ => ⟨x, k, l, hk _ _ e1, e2⟩, ?_, fun x k _ e _ => hk _ _ e⟩
  intro x _ e
  rw [Hp.get_kill, if_neg (by intro hh; rw [hh, hl] at e; cases e)]

theorem cells_put_ne {h : Hp} {b : Nat} {k : Blk} {q : Nat × Nat} (hq : q.1 ≠ b) (n : Nat) : (h.put b k).cells q n = h.cells q n := by
  unfold Hp.cells; rw [Hp.get_put, if_neg hq]
theorem cells_new_ne {h : Hp} {k : Blk} {q : Nat × Nat} (hq : q.1 ≠ h.next) (n : Nat) : (h.new k).cells q n = h.cells q n := by
  unfold Hp.cells; rw [Hp.get_new, if_neg hq]

/-- A call of the text, by the evaluator's contract. -/
theorem ins_calls {F : FuncId → Option Def} (hF : ∀ f d, F f = some d → DefOk Try.prog f d) (hm : Try.prog.follows .mixedOrders = true) {n : Nat} {args : List AV} {h : Hp} {v : AV} {h' : Hp}
    (he : evalFn F n 61 args h = some (v, h')) {ρ : Ren} {w : World} {args' : Array Value} (H : HRel ρ h w) (r : RelL ρ args args'.toList) :
    Calls Try.prog 61 args' w (Back ρ h w v h') :=
  calls_of_eval (evalT_ok hm ctxOk hF n) Try.call61 he H r

theorem live_of_cells {h : Hp} {q : Nat × Nat} {n : Nat} {l : List AV} (hc : h.cells q n = some l) : ∃ k, h.get q.1 = some k ∧ q.2 + n ≤ k.cells.length ∧ l = (k.cells.drop q.2).take n := by
  unfold Hp.cells at hc
  cases hk : h.get q.1 with
  | none => simp [hk] at hc
  | some k =>
    simp only [hk] at hc
    split at hc
    · cases hc
    split at hc
    · rename_i hle; cases hc; exact ⟨k, rfl, hle, rfl⟩
    · cases hc

/-- The prim's contract. -/
theorem insert_ok {F : FuncId → Option Def} (hF : ∀ f d, F f = some d → DefOk Try.prog f d) (hm : Try.prog.follows .mixedOrders = true) (hIns : F 61 = some (.text s61))
    (hOv : F 67 = some (.ext overlapsA)) :
    ∀ args h v h', insertA 8 args h = some (v, h') → ∀ ρ w (args' : Array Value), HRel ρ h w → RelL ρ args args'.toList → Calls Try.prog 61 args' w (Back ρ h w v h') := by
  intro args h v h' hi ρ w args' H hr
  unfold insertA at hi
  split at hi
  case h_2 => cases hi
  rename_i base n cap i q k kc
  split at hi
  case isFalse => cases hi
  rename_i hc
  obtain ⟨hi0, hin, hk0, hfit, hbig⟩ := hc
  split at hi
  case h_2 => cases hi
  rename_i old more qb hold hmore hqb
  split at hi
  case isFalse => cases hi
  rename_i hone
  obtain ⟨hone1, hone2, hqk⟩ := hone
  obtain ⟨i, rfl⟩ := Int.eq_ofNat_of_zero_le hi0
  simp only [Int.toNat_natCast] at hi
  have hml : more.length = k := by have := (Hp.cells_get (b := q.1) (o := q.2) hmore).1; omega
  cases cap with
  | known c =>
    -- the nil slice alone
    simp only at hi
    split at hi
    case isFalse => cases hi
    rename_i hcn
    obtain ⟨rfl, rfl⟩ := hcn
    obtain rfl : i = 0 := by omega
    simp only [Option.some.injEq, Prod.mk.injEq] at hi
    obtain ⟨rfl, rfl⟩ := hi
    have ho : old = [] := by
      cases base with
      | none => simp [firstA] at hold; exact hold
      | some a => have := (Hp.cells_get (b := a.1) (o := a.2) hold).1; simpa using this
    subst ho
    have happ : appendA h 1 8 (.slice base 0 (.known 0)) (.slice (some q) k (.known kc)) = some (.slice (some (h.next, 0)) (0 + k) (.more 1), h.new ⟨[] ++ more, .grown 1⟩) := by
      unfold appendA
      simp only [lenOfA]
      rw [if_neg (by omega), if_pos ⟨hfit, by unfold maxLenB; omega⟩]
      have e1 : firstA h 1 0 (.slice base 0 (.known 0)) = some [] := hold
      have e2 : firstA h 1 k (.slice (some q) k (.known kc)) = some more := hmore
      rw [e1, e2]
      simp only
      rw [if_pos ⟨hone1, by omega, rfl⟩]
      unfold growA
      simp only
      rw [if_neg (by omega)]
    have := ins_calls hF hm (ins_end F hIns 0 h base 0 k (.known 0) (.known kc) (some q) _ (by omega) _ (by simp only [sliceA, bounds_lo]; rw [if_pos ⟨by omega, by omega⟩]) happ) H hr
    simpa using this
  | more e =>
    cases base with
    | none => simp at hi
    | some a =>
      obtain ⟨b, o⟩ := a
      simp only at hi
      cases hblk : h.get b with
      | none => simp [hblk] at hi
      | some blk =>
        simp only [hblk] at hi
        split at hi
        case isFalse => cases hi
        rename_i hg
        obtain ⟨hkind, rfl, hqb2⟩ := hg
        simp only [Option.some.injEq, Prod.mk.injEq] at hi
        obtain ⟨rfl, rfl⟩ := hi
        have hro : blk.kind ≠ .ro := by rw [hkind]; simp
        have hold' : h.cells (b, o) (n * 1) = some old := hold
        have hol : old.length = n := by have := (Hp.cells_get hold').1; omega
        by_cases hin2 : i = n
        · -- at the end: an append
          subst hin2
          have happ : appendA h 1 8 (.slice (some (b, o)) i (.more 1)) (.slice (some q) k (.known kc)) = some (.slice (some (h.next, 0)) (i + k) (.more 1), (h.kill b).new ⟨old ++ more, .grown 1⟩) := by
            unfold appendA
            simp only [lenOfA]
            rw [if_neg (by omega), if_pos ⟨hfit, by unfold maxLenB; omega⟩]
            have e1 : firstA h 1 i (.slice (some (b, o)) i (.more 1)) = some old := hold
            have e2 : firstA h 1 k (.slice (some q) k (.known kc)) = some more := hmore
            rw [e1, e2]
            simp only
            rw [if_pos ⟨hone1, by omega, by omega⟩]
            unfold growA
            simp only [hblk]
            rw [if_pos ⟨hkind, trivial⟩]
          have := ins_calls hF hm (ins_end F hIns 0 h (some (b, o)) i k (.more 1) (.known kc) (some q) _ (by omega) _ (by simp only [sliceA, bounds_lo, if_true]; rw [if_pos ⟨by omega, by omega⟩]) happ) H hr
          have ht : old.take i ++ more ++ old.drop i = old ++ more := by
            rw [List.take_of_length_le (by omega), List.drop_eq_nil_of_le (by omega)]; simp
          rw [ht]
          exact this
        · -- inside: the capacity is looked at
          have hilt : i < n := by omega
          have hn0 : n ≠ 0 := by omega
          -- the model's slice
          match args', hr with
          | ⟨a1 :: a2 :: a3 :: []⟩, .cons _ _ _ _ r1 (.cons _ _ _ _ r2 (.cons _ _ _ _ r3 .nil)) =>
            cases r1 with
            | sliceG _ _ _ _ c off l hl hoff hnc htot =>
              obtain rfl : off = l.base + o := by omega
              obtain ⟨H0, hst⟩ := reveal H hblk hro (by rw [hkind]; simp [BK.hid]) hl
              have hbn : b ≠ h.next := by have := (H.dom b l hl).1; omega
              obtain ⟨qk, hqk1, hqk2, hqk3⟩ := live_of_cells hmore
              rw [hqb] at hqk1; cases hqk1
              -- what is read in the opened memory
              have hread : ∀ (p m : Nat) (x : List AV), h.cells (b, p) m = some x → (h.put b (opened blk l)).cells (b, p) m = some x := by
                intro p m x hx
                obtain ⟨k1, e1, e2, e3⟩ := live_of_cells hx
                simp only at e1 e2 e3
                rw [hblk] at e1; cases e1
                unfold Hp.cells
                simp only [Hp.get_put, if_true]
                have : p + m ≤ (opened blk l).cells.length := by simp [opened]; omega
                rw [if_neg (by simp [opened, BK.hid]), if_pos this, e3]
                simp only [opened]
                congr 1
                rw [List.drop_append_of_le_length (by omega), List.take_append_of_le_length (by simp; omega)]
              have hcut : ∀ p m, p + m ≤ n → h.cells (b, o + p) m = some ((old.drop p).take m) := by
                intro p m hpm
                obtain ⟨k1, e1, e2, e3⟩ := live_of_cells hold'
                simp only at e1 e2 e3
                rw [hblk] at e1; cases e1
                unfold Hp.cells
                simp only [hblk]
                rw [if_neg (by rw [hkind]; simp [BK.hid]), if_pos (by omega), e3]
                congr 1
                rw [List.drop_take, List.drop_drop, List.take_take, Nat.min_eq_left (by omega)]
              have hR0 : RelL ρ [.slice (some (b, o)) n (.known c), .int .i64 i, .slice (some q) k (.known kc)] [.slice (some ⟨l.row, l.base + o, none⟩) n c, a2, a3] :=
                .cons _ _ _ _ (.slice b o n c _ l hl (.inr rfl) hnc) (.cons _ _ _ _ r2 (.cons _ _ _ _ r3 .nil))
              have htail : (h.put b (opened blk l)).cells (b, o + i * 1) ((n - i) * 1) = some (old.drop i) := by
                refine hread _ _ _ ?_
                have := hcut i (n - i) (by omega)
                rw [List.take_of_length_le (by simp; omega)] at this
                simpa using this
              have hmore0 : (h.put b (opened blk l)).cells q (k * 1) = some more := by rw [cells_put_ne hqb2]; exact hmore
              have htl : (old.drop i).length = n - i := by simp [hol]
              have h1t : (old.drop i).all AV.one = true := by
                rw [List.all_eq_true] at hone2 ⊢
                exact fun x hx => hone2 x (List.mem_of_mem_drop hx)
              have hX : o + c ≤ (opened blk l).cells.length := by simp [opened]; omega
              have hg0 : (h.put b (opened blk l)).get b = some (opened blk l) := by rw [Hp.get_put, if_pos rfl]
              have hXold : ((opened blk l).cells.drop o).take n = old := by
                have := hread _ _ _ hold'
                obtain ⟨k1, e1, e2, e3⟩ := live_of_cells this
                simp only at e1 e2 e3
                rw [hg0] at e1; cases e1
                simpa using e3.symm
              by_cases hroom : n + k ≤ c
              · -- there is room: in place
                have hw1 : (h.put b (opened blk l)).write (b, o + (i + k) * 1) (old.drop i) = some ((h.put b (opened blk l)).put b { opened blk l with cells := splice (opened blk l).cells (o + (i + k) * 1) (old.drop i) }) := by
                  unfold Hp.write
                  simp only [hg0]
                  rw [if_neg (by simp [opened, BK.hid]), if_pos (by rw [htl]; omega), if_pos h1t]
                have hg1 : ((h.put b (opened blk l)).put b { opened blk l with cells := splice (opened blk l).cells (o + (i + k) * 1) (old.drop i) }).get b = some { opened blk l with cells := splice (opened blk l).cells (o + (i + k) * 1) (old.drop i) } := by rw [Hp.get_put, if_pos rfl]
                have hm1 : ((h.put b (opened blk l)).put b { opened blk l with cells := splice (opened blk l).cells (o + (i + k) * 1) (old.drop i) }).cells (q.1, q.2) (k * 1) = some more := by
                  rw [cells_put_ne hqb2]; exact hmore0
                have hw2 : ((h.put b (opened blk l)).put b { opened blk l with cells := splice (opened blk l).cells (o + (i + k) * 1) (old.drop i) }).write (b, o + i * 1) more =
                    some (((h.put b (opened blk l)).put b { opened blk l with cells := splice (opened blk l).cells (o + (i + k) * 1) (old.drop i) }).put b { opened blk l with cells := splice (splice (opened blk l).cells (o + (i + k) * 1) (old.drop i)) (o + i * 1) more }) := by
                  unfold Hp.write
                  simp only [hg1]
                  rw [if_neg (by simp [opened, BK.hid]), if_pos (by rw [splice_length, hml]; omega), if_pos hone1]
                have hov : evalFn F 1 67 [.slice (some (q.1, q.2)) k (.known kc), .slice (some (b, o + (i + k) * 1)) (n + k - (i + k)) (.known (c - (i + k)))] (h.put b (opened blk l)) = some (.bool false, h.put b (opened blk l)) := by
                  simp only [evalFn, evalT, hOv, runDef, overlapsA, hg0]
                  rw [Hp.get_put, if_neg hqb2, hqb]
                  simp only
                  rw [if_pos ⟨hqb2, by rw [hqk]; simp [BK.hid], by simp [opened, BK.hid], by intro hh; rw [hh] at hX; simp at hX; omega⟩]
                have hcalls := ins_calls hF hm (ins_shift F hIns 1 (h.put b (opened blk l)) b o n c k i q.1 q.2 kc hk0 hilt hnc hroom (by omega) _ _ more (old.drop i) hov htail hw1 hm1 hw2) H0 hR0
                refine hcalls.mono ?_
                rintro e w2 ⟨u, ρ2, rfl, ru, H2, st⟩
                have st' := hst _ _ _ st
                have hl2 : ρ2 b = some l := st.le _ _ hl
                generalize hY : splice (splice (opened blk l).cells (o + (i + k) * 1) (old.drop i)) (o + i * 1) more = Y at H2 st st'
                generalize hh2 : ((h.put b (opened blk l)).put b { opened blk l with cells := splice (opened blk l).cells (o + (i + k) * 1) (old.drop i) }).put b { opened blk l with cells := Y } = h2 at H2 st st'
                have hg2 : ∀ x, h2.get x = if x = b then some { opened blk l with cells := Y } else h.get x := by
                  intro x; rw [← hh2, Hp.get_put, Hp.get_put, Hp.get_put]; split <;> rfl
                have hn2 : h2.next = h.next := by rw [← hh2]; rfl
                have hYl : Y.length = (opened blk l).cells.length := by rw [← hY, splice_length, splice_length]
                have hall : (Y.drop o).take (n + k) = old.take i ++ more ++ old.drop i := by
                  rw [← hY, splice_eq _ _ _ (by rw [splice_length, hml]; omega), splice_eq _ _ _ (by rw [htl]; omega)]
                  simp only [Nat.mul_one, hml, htl]
                  have t1 : ((opened blk l).cells.take (o + (i + k)) ++ old.drop i ++ (opened blk l).cells.drop (o + (i + k) + (n - i))).take (o + i) = (opened blk l).cells.take (o + i) := by
                    rw [List.append_assoc, List.take_append_of_le_length (by simp; omega), List.take_take, Nat.min_eq_left (by omega)]
                  have t2 : ((opened blk l).cells.take (o + (i + k)) ++ old.drop i ++ (opened blk l).cells.drop (o + (i + k) + (n - i))).drop (o + i + k) = old.drop i ++ (opened blk l).cells.drop (o + (i + k) + (n - i)) := by
                    rw [List.append_assoc, List.drop_append]
                    have z1 : ((opened blk l).cells.take (o + (i + k))).length = o + (i + k) := by simp; omega
                    rw [z1, show o + i + k - (o + (i + k)) = 0 by omega, List.drop_eq_nil_of_le (by rw [z1]; omega)]
                    simp
                  rw [t1, t2]
                  have t3 : ((opened blk l).cells.take (o + i)).drop o = old.take i := by
                    rw [List.drop_take, Nat.add_sub_cancel_left, ← hXold, List.take_take, Nat.min_eq_left (by omega)]
                  rw [List.append_assoc, List.drop_append_of_le_length (by simp; omega), t3, ← List.append_assoc, ← List.append_assoc, List.take_append_of_le_length (by simp [hol, hml]; omega), List.take_of_length_le (by simp [hol, hml]; omega)]
                have hc2 : h2.cells (b, o) ((n + k) * 1) = some (old.take i ++ more ++ old.drop i) := by
                  unfold Hp.cells
                  simp only [hg2, if_true]
                  rw [if_neg (by simp [opened, BK.hid]), if_pos (by rw [hYl]; omega), Nat.mul_one, hall]
                obtain ⟨w3, q1, q2, q3⟩ := inPlace_ok (P := Try.prog) H2 (b := b) (o := o) (n := n + k) (e := 1) (off := l.base + o) (l := l) hl2 (blk := { opened blk l with cells := Y }) (by rw [hg2, if_pos rfl]) (by simp [opened, BK.hid]) (by simp [opened, BK.hid]) (.inr rfl)
                  (old := old.take i ++ more ++ old.drop i) (more := []) (all := old.take i ++ more ++ old.drop i) (us := []) hc2 .nil rfl (p := (n + k) * 1) (by simp; omega)
                  (fun j v hv => by
                    have hj : j < (old.take i ++ more ++ old.drop i).length := by
                      rcases Nat.lt_or_ge j (old.take i ++ more ++ old.drop i).length with hh | hh
                      · exact hh
                      · rw [List.getElem?_eq_none hh] at hv; cases hv
                    have hjl : (old.take i ++ more ++ old.drop i).length = n + k := by simp [hol, hml]; omega
                    exact .inl ⟨by omega, by omega, hv⟩) (a := ⟨l.row, l.base + o + (n + k) * 1, none⟩) rfl
                have hw3 : w3 = w2 := by simp only [Go.storeCells, Sem.run_pure, Result.ok.injEq, true_and] at q1; exact q1.symm
                subst hw3
                have hge : ∀ x, ((h.kill b).new ⟨old.take i ++ more ++ old.drop i, .grown 1⟩).get x = ((h2.kill b).new ⟨old.take i ++ more ++ old.drop i, .grown 1⟩).get x := by
                  intro x
                  rw [Hp.get_new, Hp.get_new, Hp.next_kill, Hp.next_kill, hn2, Hp.get_kill, Hp.get_kill, hg2]
                  split
                  · rfl
                  · split <;> rfl
                have hne : ((h.kill b).new ⟨old.take i ++ more ++ old.drop i, .grown 1⟩).next = ((h2.kill b).new ⟨old.take i ++ more ++ old.drop i, .grown 1⟩).next := by simp [hn2]
                cases ru with
                | slice _ _ _ _ off2 l2 hlx hoffx hncx =>
                  rw [hl2] at hlx; cases hlx
                  obtain rfl : off2 = l.base + o := by omega
                  refine ⟨_, _, rfl, ?_, q2.congr hge hne, (st'.trans q3).congr hge hne⟩
                  rw [hn2]
                  exact .sliceG h.next 0 (n + k) 1 c (l.base + o) ⟨l.row, l.base + o, l.tot⟩ (Ren.add_same _ _ _) (.inr rfl) hroom htot
              · -- there is none: a new block
                have hzt : ((n : Int) + (k : Int) - (i : Int)).toNat = n + k - i := by omega
                have hA : appendZA (h.put b (opened blk l)) 8 [.int .i64 0] (.slice (some (b, o)) i (.known c)) (n + k - i : Int) =
                    some (.slice (some (h.next, 0)) (n + k) (.more 1), (h.put b (opened blk l)).new ⟨old.take i ++ (List.replicate (n + k - i) [AV.int .i64 0]).flatten, .grown 1⟩) := by
                  unfold appendZA
                  simp only [hzt]
                  rw [if_pos (by omega), if_neg (by omega), if_pos ⟨by rw [show i + (n + k - i) = n + k by omega]; exact hfit, by unfold maxLenB; omega⟩]
                  have e1 : firstA (h.put b (opened blk l)) [AV.int .i64 0].length i (.slice (some (b, o)) i (.known c)) = some (old.take i) := by
                    have := hread _ _ _ (hcut 0 i (by omega))
                    simpa [firstA] using this
                  rw [e1]
                  simp only
                  rw [if_pos ⟨rfl, by simp [hol]; omega⟩]
                  unfold growA
                  simp only
                  rw [if_neg (by omega), show i + (n + k - i) = n + k by omega]
                  rfl
                generalize hz : (List.replicate (n + k - i) [AV.int .i64 0]).flatten = zs at hA
                have hzl : zs.length = n + k - i := by rw [← hz]; simp
                have hqn : q.1 ≠ h.next := by
                  cases r3 with
                  | slice b3 o3 n3 c3 off3 l3 hl3 h31 h32 => have := (H.dom b3 l3 hl3).1; simp only; omega
                have hg1 : ((h.put b (opened blk l)).new ⟨old.take i ++ zs, .grown 1⟩).get h.next = some ⟨old.take i ++ zs, .grown 1⟩ := by rw [Hp.get_new, Hp.next_put, if_pos rfl]
                have hm1 : ((h.put b (opened blk l)).new ⟨old.take i ++ zs, .grown 1⟩).cells (q.1, q.2) (k * 1) = some more := by rw [cells_new_ne (by simpa using hqn)]; exact hmore0
                have z0 : (old.take i).length = i := by rw [List.length_take]; omega
                have hB0 : (old.take i ++ zs).length = n + k := by rw [List.length_append, z0, hzl]; omega
                have hw1 : ((h.put b (opened blk l)).new ⟨old.take i ++ zs, .grown 1⟩).write (h.next, i * 1) more = some (((h.put b (opened blk l)).new ⟨old.take i ++ zs, .grown 1⟩).put h.next ⟨splice (old.take i ++ zs) (i * 1) more, .grown 1⟩) := by
                  unfold Hp.write
                  simp only [hg1]
                  rw [if_neg (by simp [BK.hid]), if_pos (by rw [hB0, hml]; omega), if_pos hone1]
                have hg2 : (((h.put b (opened blk l)).new ⟨old.take i ++ zs, .grown 1⟩).put h.next ⟨splice (old.take i ++ zs) (i * 1) more, .grown 1⟩).get h.next = some ⟨splice (old.take i ++ zs) (i * 1) more, .grown 1⟩ := by rw [Hp.get_put, if_pos rfl]
                have ht2 : (((h.put b (opened blk l)).new ⟨old.take i ++ zs, .grown 1⟩).put h.next ⟨splice (old.take i ++ zs) (i * 1) more, .grown 1⟩).cells (b, o + i * 1) ((n - i) * 1) = some (old.drop i) := by
                  rw [cells_put_ne hbn, cells_new_ne (by simpa using hbn)]; exact htail
                have hw2 : (((h.put b (opened blk l)).new ⟨old.take i ++ zs, .grown 1⟩).put h.next ⟨splice (old.take i ++ zs) (i * 1) more, .grown 1⟩).write (h.next, (i + k) * 1) (old.drop i) =
                    some ((((h.put b (opened blk l)).new ⟨old.take i ++ zs, .grown 1⟩).put h.next ⟨splice (old.take i ++ zs) (i * 1) more, .grown 1⟩).put h.next ⟨splice (splice (old.take i ++ zs) (i * 1) more) ((i + k) * 1) (old.drop i), .grown 1⟩) := by
                  unfold Hp.write
                  simp only [hg2]
                  rw [if_neg (by simp [BK.hid]), if_pos (by rw [splice_length, hB0, htl]; omega), if_pos h1t]
                have hall : splice (splice (old.take i ++ zs) (i * 1) more) ((i + k) * 1) (old.drop i) = old.take i ++ more ++ old.drop i := by
                  rw [splice_eq _ _ _ (by rw [splice_length, hB0, htl]; omega), splice_eq _ _ _ (by rw [hB0, hml]; omega)]
                  simp only [Nat.mul_one, hml, htl]
                  have t1 : (old.take i ++ zs).take i = old.take i := by rw [List.take_append_of_le_length (by omega), List.take_of_length_le (by omega)]
                  rw [t1]
                  have t2 : (old.take i ++ more ++ (old.take i ++ zs).drop (i + k)).take (i + k) = old.take i ++ more := by
                    rw [List.take_append_of_le_length (by simp only [List.length_append, z0, hml]; omega), List.take_of_length_le (by simp only [List.length_append, z0, hml]; omega)]
                  have t3 : (old.take i ++ more ++ (old.take i ++ zs).drop (i + k)).drop (i + k + (n - i)) = [] := List.drop_eq_nil_of_le (by simp only [List.length_append, List.length_drop, z0, hml, hzl]; omega)
                  rw [t2, t3, List.append_nil]
                rw [hall] at hw2
                have hcalls := ins_calls hF hm (ins_grow F hIns 0 (h.put b (opened blk l)) b o n c k i q.1 q.2 kc hk0 hilt hnc (by omega) (by omega) h.next _ _ _ more (old.drop i) hA hm1 hw1 ht2 hw2) H0 hR0
                refine hcalls.mono ?_
                rintro e w2 ⟨u, ρ2, rfl, ru, H2, st⟩
                have st' := hst _ _ _ st
                have hl2 : ρ2 b = some l := st.le _ _ hl
                obtain ⟨q2, q3⟩ := kill_ok H2 hl2
                have hge : ∀ x, ((h.kill b).new ⟨old.take i ++ more ++ old.drop i, .grown 1⟩).get x =
                    (((((h.put b (opened blk l)).new ⟨old.take i ++ zs, .grown 1⟩).put h.next ⟨splice (old.take i ++ zs) (i * 1) more, .grown 1⟩).put h.next ⟨old.take i ++ more ++ old.drop i, .grown 1⟩).kill b).get x := by
                  intro x
                  rw [Hp.get_new, Hp.next_kill, Hp.get_kill, Hp.get_kill, Hp.get_put, Hp.get_put, Hp.get_new, Hp.next_put, Hp.get_put]
                  by_cases hx : x = h.next
                  · subst hx; rw [if_pos rfl, if_neg (Ne.symm hbn), if_pos rfl]
                  · rw [if_neg hx, if_neg hx, if_neg hx, if_neg hx]
                    split <;> rfl
                exact ⟨u, ρ2, rfl, ru, q2.congr hge rfl, (st'.trans q3).congr hge rfl⟩

end Go.Proofs.Ytchffjnmkpedkaa
