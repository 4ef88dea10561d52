/-
  The arena: words and facts that its walks share. Own work of this session.
-/
import Derived.Test.YtchffjnmkpedkaaTc
import Derived.Test.YtchffjnmkpedkaaPd
set_option linter.unusedSectionVars false
set_option linter.unusedSimpArgs false
set_option linter.unusedVariables false
namespace Go.Proofs.Ytchffjnmkpedkaa
set_option linter.unusedSectionVars false
set_option linter.unusedSimpArgs false
set_option linter.unusedVariables false
open Go.Lite Go.RowKit Go.Lite.Arena
set_option maxHeartbeats 4000000
set_option maxRecDepth 10000

def entC (v : Int × Bool) : List AV := [.int .i64 v.1, .bool v.2]

def nodeC (n : Nd) : List AV := .bool n.leaf :: (n.kids.map (AV.int .i64) ++ n.vals.flatMap entC)

def slotC (x : Nd × Nat) : List AV := nodeC x.1 ++ [.int .i64 x.2]

theorem entC_len (v : Int × Bool) : (entC v).length = 2 := rfl

theorem nodeC_len (n : Nd) : (nodeC n).length = 25 := by simp only [nodeC, List.length_cons, List.length_append, List.length_map, n.hk, flat_length entC_len, n.hv]

theorem slotC_len (x : Nd × Nat) : (slotC x).length = 26 := by simp [slotC, nodeC_len]

/-- How often a node is asked for: its last cell. -/
theorem slotC_refs (x : Nd × Nat) : (slotC x)[25]? = some (.int .i64 x.2) := by
  unfold slotC
  rw [List.getElem?_append_right (by rw [nodeC_len]; omega)]
  simp [nodeC_len]

theorem slotC_set (x : Nd × Nat) (r : Nat) : slotC (x.1, r) = splice (slotC x) 25 [.int .i64 r] := by
  simp only [slotC, splice]
  rw [List.set_append_right _ _ (by rw [nodeC_len]; omega)]
  simp [nodeC_len]

theorem F2_slot : F2 48 = some (.text s48) := rfl

theorem rf_pos {S : St} {id : Int} (h : rf S id ≠ 0) : 1 ≤ id ∧ (id - 1).toNat < S.length ∧ ∃ x, S[(id - 1).toNat]? = some x ∧ x.2 = rf S id ∧ at? S id = some x := by
  unfold rf at? at *
  split at h
  · rename_i h1
    cases hq : S[(id - 1).toNat]? with
    | none => rw [hq] at h; exact absurd rfl h
    | some x =>
      refine ⟨h1, ?_, x, rfl, ?_, ?_⟩
      · rcases Nat.lt_or_ge (id - 1).toNat S.length with hh | hh
        · exact hh
        · rw [List.getElem?_eq_none hh] at hq; cases hq
      · rw [if_pos h1]; rfl
      · rw [if_pos h1]
  · exact absurd rfl h

theorem F2_none : F2 49 = some (.text s49) := rfl

theorem F2_refs : F2 22 = some (.text s22) := rfl

theorem F2_used : F2 19 = some (.text s19) := rfl

theorem F2_cap : F2 28 = some (.text s28) := rfl

theorem F2_keep : F2 14 = some (.text s14) := rfl

theorem F2_at : F2 21 = some (.text s21) := rfl

theorem get_new_ne {h : Hp} {c : Nat} (hc : c < h.next) (k : Blk) : (h.new k).get c = h.get c := by rw [Hp.get_new, if_neg (by omega)]

def zN : List AV := [(.bool false), (.int .i64 0), (.int .i64 0), (.int .i64 0), (.int .i64 0), (.int .i64 0), (.int .i64 0), (.int .i64 0), (.int .i64 0), (.int .i64 0), (.bool false), (.int .i64 0), (.bool false), (.int .i64 0), (.bool false), (.int .i64 0), (.bool false), (.int .i64 0), (.bool false), (.int .i64 0), (.bool false), (.int .i64 0), (.bool false), (.int .i64 0), (.bool false)]

theorem zN_len : zN.length = 25 := rfl

theorem entC_flat_one : ∀ l : List (Int × Bool), (l.flatMap entC).all AV.one = true
  | [] => rfl
  | v :: l => by simp [entC, AV.one, entC_flat_one l]

theorem nodeC_one (n : Nd) : (nodeC n).all AV.one = true := by
  simp only [nodeC, List.all_cons, List.all_append, entC_flat_one, Bool.and_true]
  simp [AV.one]

theorem splice_all (l vs : List AV) (h : vs.length = l.length) : splice l 0 vs = vs := by
  apply List.ext_getElem?
  intro i
  rw [splice_get _ _ _ _ (by omega)]
  by_cases hi : i < vs.length
  · rw [if_pos ⟨Nat.zero_le _, by omega⟩, Nat.sub_zero]
  · rw [if_neg (by omega), List.getElem?_eq_none (by omega), List.getElem?_eq_none (by omega)]

theorem F2_place : F2 50 = some (.text s50) := rfl

def zS : List AV := [(.bool false), (.int .i64 0), (.int .i64 0), (.int .i64 0), (.int .i64 0), (.int .i64 0), (.int .i64 0), (.int .i64 0), (.int .i64 0), (.int .i64 0), (.bool false), (.int .i64 0), (.bool false), (.int .i64 0), (.bool false), (.int .i64 0), (.bool false), (.int .i64 0), (.bool false), (.int .i64 0), (.bool false), (.int .i64 0), (.bool false), (.int .i64 0), (.bool false), (.int .i64 0)]

def zNd : Nd := ⟨false, List.replicate 8 0, List.replicate 8 (0, false), rfl, rfl⟩

theorem zS_eq : zS = slotC (zNd, 0) := rfl

theorem F2_cmp : F2 60 = some (.text s60) := rfl

theorem F2_bs : F2 59 = some (.text s59) := rfl

theorem F2_gone : F2 51 = some (.text s51) := rfl

theorem F2_ins : F2 61 = some (.prim (insertA 8)) := rfl

theorem desc {free : List Int} (hs : free.Pairwise (· > ·)) {i j : Nat} {x y : Int} (hij : i < j) (hx : free[i]? = some x) (hy : free[j]? = some y) : x > y := by
  have hi : i < free.length := by
    rcases Nat.lt_or_ge i free.length with hh | hh
    · exact hh
    · rw [List.getElem?_eq_none hh] at hx; cases hx
  have hj : j < free.length := by
    rcases Nat.lt_or_ge j free.length with hh | hh
    · exact hh
    · rw [List.getElem?_eq_none hh] at hy; cases hy
  rw [List.getElem?_eq_getElem hi] at hx; rw [List.getElem?_eq_getElem hj] at hy
  cases hx; cases hy
  exact List.pairwise_iff_getElem.1 hs i j hi hj hij

theorem all_one_ints (l : List Int) : (l.map (AV.int .i64)).all AV.one = true := by
  induction l with
  | nil => rfl
  | cons a l ih => simp [AV.one]

theorem freeOf_same {S S' : St} (hlen : S'.length = S.length) (h : ∀ x, rf S' x = 0 ↔ rf S x = 0) : freeOf S' = freeOf S := by
  unfold freeOf
  rw [hlen]
  refine List.filter_congr fun x _ => ?_
  by_cases e : rf S x = 0
  · have e2 := (h x).2 e; rw [e, e2]
  · have e2 : ¬ rf S' x = 0 := fun hh => e ((h x).1 hh)
    rw [beq_eq_false_iff_ne.2 e, beq_eq_false_iff_ne.2 e2]

theorem F2_drop : F2 18 = some (.text s18) := rfl

theorem rf_dec_self (S : St) (k : Int) : rf (dec S k) k = rf S k - 1 := by rw [rf_dec, if_pos rfl]

/-- A leaf has entries, another node has parts. -/
def norm (n : Nd) : Nd := if n.leaf then ⟨true, List.replicate 8 0, n.vals, rfl, n.hv⟩ else ⟨false, n.kids, List.replicate 8 (0, false), n.hk, rfl⟩

def kidOk (S : St) (k : Int) : Bool := k == 0 || rf S k != 0

theorem F2_make : F2 15 = some (.text s15) := rfl

theorem node_fill2 (z : List AV) (hz : z.length = 26) (m : Nd) : fillA z [(0, 25, .agg (nodeC m)), (25, 1, .int .i64 1)] = some (slotC (m, 1)) := by
  have hl := nodeC_len m
  have e1 : fillA z [(0, 25, .agg (nodeC m)), (25, 1, .int .i64 1)] = if (nodeC m).length = 25 ∧ 0 + 25 ≤ z.length ∧ (nodeC m).all AV.one = true then fillA (splice z 0 (nodeC m)) [(25, 1, .int .i64 1)] else none := rfl
  have e2 : ∀ y : List AV, fillA y [(25, 1, .int .i64 1)] = if [AV.int .i64 1].length = 1 ∧ 25 + 1 ≤ y.length ∧ [AV.int .i64 1].all AV.one = true then some (splice y 25 [.int .i64 1]) else none := fun y => rfl
  rw [e1, if_pos ⟨hl, by omega, nodeC_one m⟩, e2, if_pos ⟨rfl, by rw [splice_length']; omega, rfl⟩]
  congr 1
  apply List.ext_getElem?
  intro i
  rw [splice_get _ _ _ _ (by rw [splice_length']; simp; omega), splice_get _ _ _ _ (by omega)]
  show _ = (nodeC m ++ [AV.int .i64 1])[i]?
  by_cases h1 : i < 25
  · rw [if_neg (by omega), if_pos ⟨by omega, by omega⟩, List.getElem?_append_left (by omega)]; rfl
  · by_cases h2 : i = 25
    · subst h2
      rw [if_pos ⟨by omega, by simp⟩, List.getElem?_append_right (by omega), hl]
    · rw [if_neg (by simp; omega), if_neg (by omega), List.getElem?_eq_none (by omega), List.getElem?_eq_none (by rw [List.length_append, hl]; simp; omega)]
theorem node_fill (m : Nd) : fillA zS [(0, 25, .agg (nodeC m)), (25, 1, .int .i64 1)] = some (slotC (m, 1)) := node_fill2 zS rfl m

theorem node_beqs (m : Nd) : AV.beqs (nodeC m) (nodeC m) = true := by
  refine AV.beqs_of fun v hv => ?_
  simp only [nodeC, List.mem_cons, List.mem_append, List.mem_map, List.mem_flatMap] at hv
  rcases hv with rfl | ⟨x, _, rfl⟩ | ⟨x, _, hx⟩
  · simp [AV.beq]
  · simp [AV.beq]
  · simp only [entC, List.mem_cons, List.not_mem_nil, or_false] at hx
    rcases hx with rfl | rfl <;> simp [AV.beq]

theorem norm_leaf (n : Nd) (h : n.leaf = true) : splice (nodeC n) 1 [.int .i64 0, .int .i64 0, .int .i64 0, .int .i64 0, .int .i64 0, .int .i64 0, .int .i64 0, .int .i64 0] = nodeC (norm n) := by
  obtain ⟨leaf, kids, vals, hk, hv⟩ := n
  simp only at h
  subst h
  match kids, hk, vals, hv with
  | [_, _, _, _, _, _, _, _], _, [_, _, _, _, _, _, _, _], _ => show _ = _; kernel_rfl

theorem norm_node (n : Nd) (h : n.leaf = false) : splice (nodeC n) 9 [.int .i64 0, .bool false, .int .i64 0, .bool false, .int .i64 0, .bool false, .int .i64 0, .bool false, .int .i64 0, .bool false, .int .i64 0, .bool false, .int .i64 0, .bool false, .int .i64 0, .bool false] = nodeC (norm n) := by
  obtain ⟨leaf, kids, vals, hk, hv⟩ := n
  simp only at h
  subst h
  match kids, hk, vals, hv with
  | [_, _, _, _, _, _, _, _], _, [_, _, _, _, _, _, _, _], _ => show _ = _; kernel_rfl

theorem nodeC_kids (n : Nd) : ((nodeC n).drop 1).take 8 = n.kids.map (AV.int .i64) := by
  simp only [nodeC, List.drop_succ_cons, List.drop_zero]
  rw [List.take_append_of_le_length (by simp [n.hk]), List.take_of_length_le (by simp [n.hk])]

/-- The parts are asked for once more. -/
def incs (S : St) (l : List Int) : St := l.foldl (fun S k => if rf S k = 0 then S else inc S k) S

/-- A node more. -/
def NewAt (S : St) (id : Int) (m : Nd) (S1 : St) : Prop :=
  (freeOf S = [] ∧ id = S.length + 1 ∧ S1 = S ++ [(m, 1)]) ∨ (id ∈ freeOf S ∧ (∀ x ∈ freeOf S, id ≤ x) ∧ S1 = S.set (id - 1).toNat (m, 1))

theorem rf_inc (S : St) (k x : Int) (hk : rf S k ≠ 0) : rf (inc S k) x = if x = k then rf S x + 1 else rf S x := by
  by_cases e : x = k
  · subst e; rw [if_pos rfl]; exact (rf_upd (· + 1) S x x (.inl hk)).trans (if_pos rfl)
  · rw [if_neg e]; unfold rf inc; rw [at_upd, if_neg e]

theorem sum_modify_le : ∀ (l : List (Nd × Nat)) (i : Nat), ((l.modify i fun x => (x.1, x.2 + 1)).map (·.2)).sum ≤ (l.map (·.2)).sum + 1
  | [], i => by simp
  | a :: l, 0 => by simp [List.modify_cons]; omega
  | a :: l, i + 1 => by
    have := sum_modify_le l i
    simp [List.modify_cons]; omega

theorem total_inc (S : St) (k : Int) : total (inc S k) ≤ total S + 1 := by
  unfold total inc upd
  split
  · exact sum_modify_le _ _
  · omega

theorem incs_snoc (S : St) (l : List Int) (x : Int) : incs S (l ++ [x]) = if rf (incs S l) x = 0 then incs S l else inc (incs S l) x := by
  unfold incs; rw [List.foldl_append]; rfl

theorem incs_facts (S : St) (l : List Int) : (incs S l).length = S.length ∧ total (incs S l) ≤ total S + l.length ∧ ∀ x, rf (incs S l) x = 0 ↔ rf S x = 0 := by
  induction l generalizing S with
  | nil => exact ⟨rfl, Nat.le_refl _, fun _ => Iff.rfl⟩
  | cons a l ih =>
    have e : incs S (a :: l) = incs (if rf S a = 0 then S else inc S a) l := rfl
    rw [e]
    split
    · obtain ⟨h1, h2, h3⟩ := ih S
      exact ⟨h1, by simp; omega, h3⟩
    · rename_i hz
      obtain ⟨h1, h2, h3⟩ := ih (inc S a)
      have := total_inc S a
      refine ⟨by rw [h1]; exact length_upd _ _ _, by simp; omega, fun x => ?_⟩
      rw [h3, rf_inc _ _ _ hz]
      split
      · rename_i e; subst e; constructor
        · intro hh; omega
        · intro hh; exact absurd hh hz
      · exact Iff.rfl

theorem rf_set (S : St) (id : Int) (m : Nd) (x : Int) (h1 : 1 ≤ id) (h2 : id ≤ S.length) : rf (S.set (id - 1).toNat (m, 1)) x = if x = id then 1 else rf S x := by
  unfold rf at?
  by_cases hx : 1 ≤ x
  · rw [if_pos hx, if_pos hx, List.getElem?_set]
    by_cases e : x = id
    · subst e; rw [if_pos rfl, if_pos rfl, if_pos (by omega)]; rfl
    · rw [if_neg (by omega), if_neg e]
  · rw [if_neg hx, if_neg hx, if_neg (by omega)]

theorem rf_push (S : St) (m : Nd) (x : Int) : rf (S ++ [(m, 1)]) x = if x = S.length + 1 then 1 else rf S x := by
  unfold rf at?
  by_cases hx : 1 ≤ x
  · rw [if_pos hx, if_pos hx, List.getElem?_append]
    by_cases e : x = S.length + 1
    · subst e
      rw [if_pos rfl, if_neg (by omega), show ((S.length : Int) + 1 - 1).toNat - S.length = 0 by omega]; rfl
    · rw [if_neg e]
      split
      · rfl
      · rw [List.getElem?_eq_none (by simp; omega), List.getElem?_eq_none (by omega)]
  · rw [if_neg hx, if_neg hx, if_neg (by omega)]

theorem freeOf_push (S : St) (m : Nd) (h : freeOf S = []) : freeOf (S ++ [(m, 1)]) = [] := by
  rw [List.eq_nil_iff_forall_not_mem]
  intro x hx
  obtain ⟨h1, h2, h3⟩ := mem_freeOf.1 hx
  rw [rf_push] at h3
  split at h3
  · omega
  · have : x ∈ freeOf S := mem_freeOf.2 ⟨h1, by simp at h2; omega, h3⟩
    rw [h] at this; cases this

theorem freeOf_fill (S : St) (m : Nd) {id : Int} (hid : id ∈ freeOf S) (hmin : ∀ x ∈ freeOf S, id ≤ x) : freeOf S = freeOf (S.set (id - 1).toNat (m, 1)) ++ [id] := by
  obtain ⟨h1, h2, h3⟩ := mem_freeOf.1 hid
  have hr := fun x => rf_set S id m x h1 h2
  have hmem : ∀ x ∈ freeOf (S.set (id - 1).toNat (m, 1)), id < x := by
    intro x hx
    obtain ⟨q1, q2, q3⟩ := mem_freeOf.1 hx
    rw [hr] at q3
    split at q3
    · omega
    · have := hmin x (mem_freeOf.2 ⟨q1, by simpa using q2, q3⟩)
      omega
  have := freeOf_gone (S := S.set (id - 1).toNat (m, 1)) (S' := S) (k := id) (c := (freeOf (S.set (id - 1).toNat (m, 1))).length) (by simp) h1 (by simpa using h2) (by rw [hr, if_pos rfl]; omega) h3 (fun x e => by rw [hr, if_neg e])
    ⟨Nat.le_refl _, fun j x _ hx => hmem x (List.mem_of_getElem? hx), fun j x hj hx => by rw [List.getElem?_eq_none hj] at hx; cases hx⟩
  simpa using this

theorem total_set_le : ∀ (S : St) (i : Nat) (m : Nd), total (S.set i (m, 1)) ≤ total S + 1
  | [], i, m => by simp [total]
  | a :: l, 0, m => by simp [total]; omega
  | a :: l, i + 1, m => by
    have := total_set_le l i m
    simp [total] at this ⊢; omega

theorem new_total {S : St} {id : Int} {m : Nd} {S1 : St} (h : NewAt S id m S1) : total S1 ≤ total S + 1 ∧ S1.length ≤ S.length + 1 := by
  rcases h with ⟨_, _, rfl⟩ | ⟨_, _, rfl⟩
  · simp [total]
  · exact ⟨total_set_le _ _ _, by simp⟩

theorem slotC_one (x : Nd × Nat) : (slotC x).all AV.one = true := by
  unfold slotC; rw [List.all_append, nodeC_one]; rfl

theorem NewAt.facts {S S1 : St} {id : Int} {m : Nd} (h : NewAt S id m S1) : rf S id = 0 ∧ 1 ≤ id ∧ (∀ x, rf S1 x = if x = id then 1 else rf S x) ∧ (∀ x, asks S1 x = asks S x + m.kids.count x) ∧ (∀ x, x ≠ id → ndOf S1 x = ndOf S x) ∧ ndOf S1 id = some m := by
  rcases h with ⟨hf, rfl, rfl⟩ | ⟨hid, hmin, rfl⟩
  · refine ⟨?_, by omega, fun x => rf_push S m x, fun x => ?_, fun x hx => ?_, ?_⟩
    · unfold rf at?; rw [if_pos (by omega), List.getElem?_eq_none (by omega)]; rfl
    · unfold asks; simp [askOf]
    · unfold ndOf at?
      split
      · rw [List.getElem?_append]
        split
        · rfl
        · rw [List.getElem?_eq_none (by simp; omega), List.getElem?_eq_none (by omega)]
      · rfl
    · unfold ndOf at?
      rw [if_pos (by omega), List.getElem?_append_right (by omega), show ((S.length : Int) + 1 - 1).toNat - S.length = 0 by omega]; rfl
  · obtain ⟨h1, h2, h3⟩ := mem_freeOf.1 hid
    have hlt : (id - 1).toNat < S.length := by omega
    have hq := List.getElem?_eq_getElem hlt
    refine ⟨h3, h1, fun x => rf_set S id m x h1 h2, fun x => ?_, fun x hx => ?_, ?_⟩
    · unfold rf at? at h3
      rw [if_pos h1, hq] at h3
      have h3' : (S[(id - 1).toNat]'hlt).2 = 0 := h3
      have := sum_set_gen (askOf x) (m, 1) S _ _ hq
      unfold asks
      have e1 : askOf x (S[(id - 1).toNat]'hlt) = 0 := by unfold askOf; rw [if_pos h3']
      have e2 : askOf x (m, 1) = m.kids.count x := rfl
      rw [e1, e2] at this
      omega
    · unfold ndOf at?
      split
      · rw [List.getElem?_set_ne (by omega)]
      · rfl
    · unfold ndOf at?
      rw [if_pos h1, List.getElem?_set_self hlt]; rfl

theorem incs_rf (S : St) (l : List Int) (x : Int) : rf (incs S l) x = if rf S x = 0 then 0 else rf S x + l.count x := by
  induction l generalizing S with
  | nil => simp [incs]
  | cons a l ih =>
    have e : incs S (a :: l) = incs (if rf S a = 0 then S else inc S a) l := rfl
    rw [e, List.count_cons]
    split
    · rename_i hz
      rw [ih]
      by_cases hx : a = x
      · subst hx; rw [if_pos hz, if_pos hz]
      · simp [hx]
    · rename_i hz
      rw [ih, rf_inc _ _ _ hz]
      by_cases hx : x = a
      · subst hx; rw [if_pos rfl, if_neg (by omega), if_neg hz]; simp; omega
      · rw [if_neg hx, if_neg (show ¬ (a == x) = true by simpa using fun e => hx e.symm), Nat.add_zero]

theorem incs_asks (S : St) (l : List Int) (x : Int) : asks (incs S l) x = asks S x := by
  induction l generalizing S with
  | nil => rfl
  | cons a l ih =>
    have e : incs S (a :: l) = incs (if rf S a = 0 then S else inc S a) l := rfl
    rw [e]
    split
    · exact ih S
    · rename_i hz
      rw [ih, asks_inc x hz]

theorem incs_nd (S : St) (l : List Int) (x : Int) : ndOf (incs S l) x = ndOf S x := by
  induction l generalizing S with
  | nil => rfl
  | cons a l ih =>
    have e : incs S (a :: l) = incs (if rf S a = 0 then S else inc S a) l := rfl
    rw [e]
    split
    · exact ih S
    · rw [ih]; exact nd_upd _ _ _ _

/-- A node made: the account. -/
theorem make_account {S S1 : St} {id : Int} {m : Nd} (h : NewAt S id m S1) (hok : m.kids.all (kidOk S) = true) {x : Int} (hx : x ≠ 0) {c : Nat} (e : rf S x = c + asks S x) :
    rf (incs S1 m.kids) x = (c + if x = id then 1 else 0) + asks (incs S1 m.kids) x := by
  obtain ⟨h0, h1, hr, ha, _, _⟩ := h.facts
  have hc : rf S x = 0 → m.kids.count x = 0 := by
    intro hz
    rw [List.count_eq_zero]
    intro hm
    have := List.all_eq_true.1 hok x hm
    simp [kidOk, hx, hz] at this
  rw [incs_rf, incs_asks, ha, hr]
  by_cases hxi : x = id
  · subst hxi
    rw [if_pos rfl, if_neg (by omega), if_pos rfl, hc h0]
    rw [h0] at e
    omega
  · rw [if_neg hxi, if_neg hxi]
    split
    · rename_i hz
      rw [hc hz]; omega
    · omega

/-- An act. -/
structure ActV where
  kind : Int
  n : Int
  leaf : Bool
  kids : List Int
  val : Int
  hk : kids.length = 8

/-- The node of an act. -/
def actNd (x : ActV) : Nd := ⟨x.leaf, x.kids, (x.val, (x.val.tmod 2 == 0)) :: List.replicate 7 (0, false), x.hk, rfl⟩

def actC (x : ActV) : List AV := .int .i64 x.kind :: .int .i64 x.n :: .bool x.leaf :: (x.kids.map (AV.int .i64) ++ [.int .i64 x.val])

theorem actC_len (x : ActV) : (actC x).length = 12 := by simp [actC, x.hk]

theorem F2_new : F2 13 = some (.text s13) := rfl

theorem F2_given : F2 16 = some (.text s16) := rfl

theorem F2_node : F2 17 = some (.text s17) := rfl

theorem given_fill (m : Nd) : fillA zN [(0, 1, .bool m.leaf), (1, 8, .agg (m.kids.map (AV.int .i64))), (9, 16, .agg (m.vals.flatMap entC))] = some (nodeC m) := by
  obtain ⟨leaf, kids, vals, hk, hv⟩ := m
  match kids, hk, vals, hv with
  | [_, _, _, _, _, _, _, _], _, [_, _, _, _, _, _, _, _], _ =>
    simp only [fillA, zN, AV.cells, List.map_cons, List.map_nil, List.flatMap_cons, List.flatMap_nil, entC, List.cons_append, List.nil_append, nodeC, splice, List.set_cons_zero, List.set_cons_succ, List.length_cons, List.length_nil, List.all_cons, List.all_nil, AV.one, Bool.and_self, Nat.reduceAdd, Nat.reduceLeDiff, and_self, if_true, reduceIte, List.append_nil]

theorem nodeC_vals (n : Nd) : ((nodeC n).drop 9).take 16 = n.vals.flatMap entC := by
  obtain ⟨leaf, kids, vals, hk, hv⟩ := n
  match kids, hk, vals, hv with
  | [_, _, _, _, _, _, _, _], _, [_, _, _, _, _, _, _, _], _ => show _ = _; kernel_rfl

theorem actC_one (x : ActV) : (actC x).all AV.one = true := by
  obtain ⟨kind, n, leaf, kids, val, hk⟩ := x
  match kids, hk with
  | [_, _, _, _, _, _, _, _], _ => show _ = _; kernel_rfl

theorem actC_kids (x : ActV) : ((actC x).drop 3).take 8 = x.kids.map (AV.int .i64) := by
  obtain ⟨kind, n, leaf, kids, val, hk⟩ := x
  match kids, hk with
  | [_, _, _, _, _, _, _, _], _ => show _ = _; kernel_rfl

theorem actC_val (x : ActV) : (actC x)[11]? = some (.int .i64 x.val) := by
  obtain ⟨kind, n, leaf, kids, val, hk⟩ := x
  match kids, hk with
  | [_, _, _, _, _, _, _, _], _ => show _ = _; kernel_rfl

/-- The node of an act, its first entry not yet filled in. -/
def actN0 (x : ActV) : Nd := ⟨x.leaf, x.kids, List.replicate 8 (0, false), x.hk, rfl⟩

theorem actN0_fill (x : ActV) : fillA zN [(0, 1, .bool x.leaf), (1, 8, .agg (x.kids.map (AV.int .i64)))] = some (nodeC (actN0 x)) := by
  obtain ⟨kind, n, leaf, kids, val, hk⟩ := x
  match kids, hk with
  | [_, _, _, _, _, _, _, _], _ =>
    simp only [actN0, fillA, zN, AV.cells, List.map_cons, List.map_nil, List.replicate, List.flatMap_cons, List.flatMap_nil, entC, List.cons_append, List.nil_append, nodeC, splice, List.set_cons_zero, List.set_cons_succ, List.length_cons, List.length_nil, List.all_cons, List.all_nil, AV.one, Bool.and_self, Nat.reduceAdd, Nat.reduceLeDiff, and_self, if_true, reduceIte, List.append_nil]

theorem actNd_splice (x : ActV) : splice (nodeC (actN0 x)) 9 [.int .i64 x.val, .bool (x.val.tmod 2 == 0)] = nodeC (actNd x) := by
  obtain ⟨kind, n, leaf, kids, val, hk⟩ := x
  match kids, hk with
  | [_, _, _, _, _, _, _, _], _ => show _ = _; kernel_rfl

theorem F2_known9 : F2 20 = some (.prim trueA) := rfl

theorem kids_eq (m : Nd) : flatEq [.int .i64, .int .i64, .int .i64, .int .i64, .int .i64, .int .i64, .int .i64, .int .i64] (m.kids.map (AV.int .i64)) (m.kids.map (AV.int .i64)) = some true := by
  obtain ⟨leaf, kids, vals, hk, hv⟩ := m
  match kids, hk with
  | [_, _, _, _, _, _, _, _], _ => simp [flatEq]

theorem vals_eq (m : Nd) : flatEq [.int .i64, .bool, .int .i64, .bool, .int .i64, .bool, .int .i64, .bool, .int .i64, .bool, .int .i64, .bool, .int .i64, .bool, .int .i64, .bool] (m.vals.flatMap entC) (m.vals.flatMap entC) = some true := by
  obtain ⟨leaf, kids, vals, hk, hv⟩ := m
  match vals, hv with
  | [_, _, _, _, _, _, _, _], _ => simp [flatEq, entC]

/-- The reference's counts: the place 0 is none's. -/
def cnts (S : St) : List Int := 0 :: S.map fun x => (x.2 : Int)

/-- The reference's nodes. -/
def nods (S : St) : List Nd := zNd :: S.map (·.1)

theorem F2_is : F2 52 = some (.text s52) := rfl

theorem cnts_get (S : St) (id : Int) (h1 : 0 < id) (h2 : id < S.length + 1) : (cnts S)[id.toNat]? = some (rf S id : Int) := by
  have e : id.toNat = (id - 1).toNat + 1 := by omega
  unfold cnts rf at?
  rw [e, List.getElem?_cons_succ, List.getElem?_map, if_pos (by omega), List.getElem?_eq_getElem (by omega)]
  rfl

end Go.Proofs.Ytchffjnmkpedkaa
