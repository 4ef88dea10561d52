/-
  LITE, part p: a region whose order is open: the proof. Own work of this session.
-/
import Derived.Test.YtchffjnmkpedkaaLo
set_option linter.unusedSectionVars false
set_option linter.unusedSimpArgs false
set_option linter.unusedVariables false
namespace Go.Lite
set_option linter.unusedSectionVars false
set_option linter.unusedSimpArgs false
set_option linter.unusedVariables false
open Go.RowKit
variable [Ctx]

section
variable {P : Program} {call : Callee} {nt : Nat}

/-! ### Allocations -/
theorem newOf_evalO {fr : Fr} {o : O} {cs : List AV} {q : NV} (e : newOf fr o = some (cs, q)) (h : Hp) : evalO fr h o = some (.val (mkV q h.next), h.new ⟨cs, o.kind⟩) := by
  cases o <;> simp only [newOf, reduceCtorEq] at e
  case new cells => cases e; rfl
  case makeMap => cases e; rfl
  case box x =>
    split at e
    case h_2 => cases e
    rename_i v hv
    split at e
    case isFalse => cases e
    rename_i hone
    cases e
    simp only [evalO, hv, if_pos hone]; rfl
  case buildSlice len zero parts =>
    split at e
    case h_2 => cases e
    rename_i l hl
    rw [Option.map_eq_some_iff] at e
    obtain ⟨c, hc, e⟩ := e
    cases e
    simp only [evalO, hl, hc, Option.map_some]; rfl
  case makeSlice bytes zero l c =>
    split at e
    case h_2 => cases e
    rename_i k1 n k2 m e1 e2
    split at e
    case isFalse => cases e
    rename_i hc
    cases e
    simp only [evalO, e1, e2, if_pos hc]; rfl

mutual
/-- No block from this number on is named. -/
def AV.lowV (N : Nat) : AV → Bool
  | .ptr (some p) => decide (p.1 < N)
  | .slice (some p) _ _ => decide (p.1 < N)
  | .func _ a b => AV.lowL N a && AV.lowL N b
  | .agg l => AV.lowL N l
  | .tuple l => AV.lowL N l
  | .map (some b) => decide (b < N)
  | .yield b => decide (b < N)
  | _ => true
def AV.lowL (N : Nat) : List AV → Bool
  | [] => true
  | v :: l => AV.lowV N v && AV.lowL N l
end

mutual
def AV.sup : AV → Nat
  | .ptr (some p) => p.1 + 1
  | .slice (some p) _ _ => p.1 + 1
  | .func _ a b => AV.supL a + AV.supL b
  | .agg l => AV.supL l
  | .tuple l => AV.supL l
  | .map (some b) => b + 1
  | .yield b => b + 1
  | _ => 0
def AV.supL : List AV → Nat
  | [] => 0
  | v :: l => AV.sup v + AV.supL l
end

mutual
theorem AV.low_sup : ∀ (v : AV) (N : Nat), v.sup ≤ N → v.lowV N = true
  | .ptr (some p), N, h => by simp only [AV.sup] at h; simp only [AV.lowV, decide_eq_true_eq]; omega
  | .slice (some p) _ _, N, h => by simp only [AV.sup] at h; simp only [AV.lowV, decide_eq_true_eq]; omega
  | .func _ a b, N, h => by
    simp only [AV.sup] at h; simp only [AV.lowV, Bool.and_eq_true]
    exact ⟨AV.lowL_sup a N (by omega), AV.lowL_sup b N (by omega)⟩
  | .agg l, N, h => by simp only [AV.sup] at h; simp only [AV.lowV]; exact AV.lowL_sup l N h
  | .tuple l, N, h => by simp only [AV.sup] at h; simp only [AV.lowV]; exact AV.lowL_sup l N h
  | .ptr none, _, _ => rfl
  | .slice none _ _, _, _ => rfl
  | .int _ _, _, _ => rfl
  | .bool _, _, _ => rfl
  | .str _, _, _ => rfl
  | .nilFunc, _, _ => rfl
  | .map none, _, _ => rfl
  | .map (some b), N, h => by simp only [AV.sup] at h; simp only [AV.lowV, decide_eq_true_eq]; omega
  | .yield b, N, h => by simp only [AV.sup] at h; simp only [AV.lowV, decide_eq_true_eq]; omega
  | .junk, _, _ => rfl
theorem AV.lowL_sup : ∀ (l : List AV) (N : Nat), AV.supL l ≤ N → AV.lowL N l = true
  | [], _, _ => rfl
  | v :: l, N, h => by
    simp only [AV.supL] at h; simp only [AV.lowL, Bool.and_eq_true]
    exact ⟨AV.low_sup v N (by omega), AV.lowL_sup l N (by omega)⟩
end

mutual
theorem Rel.low {ρ ρ' : Ren} {N : Nat} (hr : ∀ b l, b < N → ρ' b = some l → ρ b = some l) : ∀ {a : AV} {v : Value}, Rel ρ' a v → a.lowV N = true → Rel ρ a v
  | _, _, .int k n, _ => .int k n
  | _, _, .bool b, _ => .bool b
  | _, _, .str s, _ => .str s
  | _, _, .ptrNil, _ => .ptrNil
  | _, _, .ptr b o l e, h => by simp only [AV.lowV, decide_eq_true_eq] at h; exact .ptr b o l (hr _ _ h e)
  | _, _, .sliceNil, _ => .sliceNil
  | _, _, .slice b o n c off l e e2 e3, h => by simp only [AV.lowV, decide_eq_true_eq] at h; exact .slice b o n c off l (hr _ _ h e) e2 e3
  | _, _, .sliceG b o n x c off l e e2 e3 e4, h => by simp only [AV.lowV, decide_eq_true_eq] at h; exact .sliceG b o n x c off l (hr _ _ h e) e2 e3 e4
  | _, _, .func f a b a' b' e1 e2, h => by simp only [AV.lowV, Bool.and_eq_true] at h; exact .func f a b a' b' (RelL.low hr e1 h.1) (RelL.low hr e2 h.2)
  | _, _, .nilFunc, _ => .nilFunc
  | _, _, .mapNil, _ => .mapNil
  | _, _, .map b l e, h => by simp only [AV.lowV, decide_eq_true_eq] at h; exact .map b l (hr _ _ h e)
  | _, _, .yield b l e, h => by simp only [AV.lowV, decide_eq_true_eq] at h; exact .yield b l (hr _ _ h e)
  | _, _, .agg l c e, h => by simp only [AV.lowV] at h; exact .agg l c (RelL.low hr e h)
  | _, _, .tuple l c e, h => by simp only [AV.lowV] at h; exact .tuple l c (RelL.low hr e h)
  | _, _, .junk v, _ => .junk v
theorem RelL.low {ρ ρ' : Ren} {N : Nat} (hr : ∀ b l, b < N → ρ' b = some l → ρ b = some l) : ∀ {a : List AV} {v : List Value}, RelL ρ' a v → AV.lowL N a = true → RelL ρ a v
  | _, _, .nil, _ => .nil
  | _, _, .cons a v l m e1 e2, h => by simp only [AV.lowL, Bool.and_eq_true] at h; exact .cons a v l m (Rel.low hr e1 h.1) (RelL.low hr e2 h.2)
end

theorem lowL_get {N : Nat} : ∀ {l : List AV} {j : Nat} {x : AV}, AV.lowL N l = true → l[j]? = some x → x.lowV N = true
  | [], j, x, h, e => by simp at e
  | v :: l, 0, x, h, e => by simp only [AV.lowL, Bool.and_eq_true] at h; simp at e; subst e; exact h.1
  | v :: l, j + 1, x, h, e => by simp only [AV.lowL, Bool.and_eq_true] at h; exact lowL_get h.2 (by simpa using e)

theorem BlkRel.low {ρ ρ' : Ren} {N : Nat} (hr : ∀ b l, b < N → ρ' b = some l → ρ b = some l) {w : World} {k : Blk} {l : Loc} (hN : AV.lowL N k.cells = true) (hnl : ∀ r, k.kind ≠ .loop r) (hni : ∀ m s sn la, k.kind ≠ .iter m s sn la) (H : BlkRel ρ' w k l) : BlkRel ρ w k l :=
  ⟨fun hk => let ⟨c, e, z, h1, h2, h3, h4⟩ := H.1 hk
    ⟨c, e, z, h1, h2, h3, fun i v hv => let ⟨u, hu, r⟩ := h4 i v hv; ⟨u, hu, Rel.low hr r (lowL_get hN hv)⟩⟩,
   fun c bs hk => let ⟨es, h1, h2, h3⟩ := H.2.1 c bs hk; ⟨es, h1, h2, RelL.low hr h3 hN⟩, fun m s sn la hk => absurd hk (hni m s sn la), fun r hk => absurd hk (hnl r)⟩

/-- What is fixed of a region. -/
structure DR (P : Program) (call : Callee) (nt : Nat) (ops : Array Oper) (dl : List DOp) (A : List (List Nat)) (hs : List Hp) (ids : Nat → Nat × List AV) (v : Nat → AV) (fr : Fr) (loud : Nat → Bool) (md : Bool) : Prop where
  len : dl.length = ops.size
  op : ∀ (i : Nat) (o : Oper), ops[i]? = some o → ∃ d : DOp, dl[i]? = some d ∧ lowerOper P nt ops o = some d.toSOp ∧ loud i = (d.o.cls md == .loud) ∧
    d.lo = cnt (fun k => loud k && isAnc A i k) ops.size ∧ d.hi = cnt (fun k => loud k && !isAnc A k i) ops.size ∧
    Just call md d (frAt (fun k => (ops[k]?).bind (·.dst)) v fr i) hs (cnt loud i) (ids i) (v i)
  hA : chkA ops A = true
  hT : chkT ops A = true
  hL : ∀ (i k : Nat), i < k → k < ops.size → loud i = true → loud k = true → isAnc A k i = true
  ids : ∀ (i k : Nat) (d e : DOp), dl[i]? = some d → d.o.cls md = .new → dl[k]? = some e → e.o.cls md = .new → (ids i).1 = (ids k).1 → i = k

/-- What holds while operations come up. -/
structure DInv (ops : Array Oper) (dl : List DOp) (hs : List Hp) (ids : Nat → Nat × List AV) (v : Nat → AV) (fr : Fr) (loud : Nat → Bool) (md : Bool) (nt : Nat) (ρ0 : Ren) (h0 : Hp) (w0 : World) (a0 : Act) (listed : Array Bool) (a : Act) (w : World) (ρ : Ren) (g : Hp) : Prop where
  sz : listed.size = ops.size
  cl : Closed ops (fun k => listed.getD k false)
  hg : hs[cnt (fun k => loud k && listed.getD k false) ops.size]? = some g
  H : HRel ρ g w
  tn : nt ≤ a.tmps.size
  tl : ∀ (k : Nat) (t : Tmp), k < ops.size → listed.getD k false = true → (ops[k]?).bind (·.dst) = some t → ∃ u, a.tmps[t]? = some u ∧ Rel ρ (v k) u
  tr : ∀ (t : Tmp) (x : AV), (∀ k, k < ops.size → listed.getD k false = true → (ops[k]?).bind (·.dst) ≠ some t) → fr.get t = some x → ∃ u, a.tmps[t]? = some u ∧ Rel ρ x u
  nw : ∀ (i : Nat) (d : DOp), dl[i]? = some d → d.o.cls md = .new → listed.getD i false = false → ρ (ids i).1 = none ∧ g.get (ids i).1 = some ⟨(ids i).2, d.o.kind⟩ ∧ (ids i).1 < g.next ∧ h0.next ≤ (ids i).1
  st : Step ρ0 h0 w0 ρ g w
  df : a.defers = a0.defers

theorem listed_set {listed : Array Bool} {i k : Nat} (hi : i < listed.size) : (listed.setIfInBounds i true).getD k false = if k = i then true else listed.getD k false := by
  rw [Array.getD_eq_getD_getElem?, Array.getD_eq_getD_getElem?, Array.getElem?_setIfInBounds]
  by_cases h : k = i
  · subst h; simp [hi]
  · rw [if_neg (Ne.symm h), if_neg h]

variable {ops : Array Oper} {dl : List DOp} {A : List (List Nat)} {hs : List Hp} {ids : Nat → Nat × List AV} {v : Nat → AV} {fr : Fr} {loud : Nat → Bool} {md : Bool} {ρ0 : Ren} {h0 : Hp} {w0 : World} {a0 : Act}

/-- The step: operation i has come up and left u. -/
theorem DInv.next (D : DR P call nt ops dl A hs ids v fr loud md) {listed : Array Bool} {a : Act} {w : World} {ρ : Ren} {g : Hp} (I : DInv ops dl hs ids v fr loud md nt ρ0 h0 w0 a0 listed a w ρ g)
    {i : Nat} {o : Oper} (ho : ops[i]? = some o) (hni : listed.getD i false = false) (hr : ∀ e ∈ o.after.toList, Region.binds .any e = true → listed.getD e.on false = true)
    {u : Value} {ρ' : Ren} {g' : Hp} {w' : World} (hle : ρ.le ρ') (r : Rel ρ' (v i) u) (H' : HRel ρ' g' w') (hg' : hs[cnt (fun k => loud k && listed.getD k false) ops.size + (if loud i = true then 1 else 0)]? = some g')
    (hnw : ∀ (k : Nat) (d : DOp), dl[k]? = some d → d.o.cls md = .new → k ≠ i → listed.getD k false = false → ρ' (ids k).1 = none ∧ g'.get (ids k).1 = some ⟨(ids k).2, d.o.kind⟩ ∧ (ids k).1 < g'.next)
    (hst : Step ρ0 h0 w0 ρ' g' w') : DInv ops dl hs ids v fr loud md nt ρ0 h0 w0 a0 (listed.setIfInBounds i true) (a.put o.dst u) w' ρ' g' := by
  have hi : i < ops.size := by
    rcases Nat.lt_or_ge i ops.size with hh | hh
    · exact hh
    · rw [Array.getElem?_eq_none hh] at ho; cases ho
  have hil : i < listed.size := by rw [I.sz]; exact hi
  have hset : ∀ k, (listed.setIfInBounds i true).getD k false = if k = i then true else listed.getD k false := fun k => listed_set hil
  obtain ⟨d, hd, hlow, _⟩ := D.op i o ho
  have hdst := (lowerOper_spec hlow).1
  refine ⟨by simp [I.sz], ?_, ?_, H', ?_, ?_, ?_, ?_, hst, (put_defers' _ _ _).trans I.df⟩
  · intro k ok hok hk e he hb
    simp only [hset] at hk ⊢
    by_cases e0 : k = i
    · subst e0
      rw [ho] at hok; cases hok
      have := hr e he hb
      split
      · rfl
      · exact this
    · rw [if_neg e0] at hk
      have := I.cl k ok hok hk e he hb
      split
      · rfl
      · exact this
  · rw [← hg']
    congr 1
    by_cases hl : loud i = true
    · rw [if_pos hl]
      refine cnt_insert (i := i) hi (by simp [hni]) (by simp [hset, hl]) (fun k hk => by rw [hset, if_neg hk])
    · rw [if_neg hl]
      refine cnt_congr fun k _ => ?_
      rw [hset]
      by_cases e0 : k = i
      · subst e0; simp [hl]
      · rw [if_neg e0]
  · cases hdd : o.dst with
    | none => simpa [Act.put] using I.tn
    | some t => simpa [Act.put] using I.tn
  · intro k t hk hkl hkd
    rw [hset] at hkl
    by_cases e0 : k = i
    · subst e0
      rw [ho] at hkd
      simp only [Option.bind_some] at hkd
      rw [hkd] at hdst
      simp only [lowerDst] at hdst
      split at hdst
      · rename_i hlt
        refine ⟨u, ?_, r⟩
        rw [hkd]
        have : t < a.tmps.size := Nat.lt_of_lt_of_le hlt I.tn
        simp [Act.put, this]
      · cases hdst
    · rw [if_neg e0] at hkl
      obtain ⟨u', hu', r'⟩ := I.tl k t hk hkl hkd
      refine ⟨u', ?_, Rel.mono hle r'⟩
      have hne := (chkT_spec D.hT ho hkd (Ne.symm e0)).2
      cases hdd : o.dst with
      | none => simpa [Act.put] using hu'
      | some s =>
        simp only [Act.put]
        rw [Array.getElem?_setIfInBounds, if_neg (by intro e1; exact hne (by rw [hdd, e1]))]
        exact hu'
  · intro t x hno hx
    have hnoi : o.dst ≠ some t := by
      have := hno i hi (by rw [hset, if_pos rfl])
      rw [ho] at this
      exact this
    obtain ⟨u', hu', r'⟩ := I.tr t x (fun k hk hkl => hno k hk (by rw [hset]; split <;> simp_all)) hx
    refine ⟨u', ?_, Rel.mono hle r'⟩
    cases hdd : o.dst with
    | none => simpa [Act.put] using hu'
    | some s =>
      simp only [Act.put]
      rw [Array.getElem?_setIfInBounds, if_neg (by intro e1; exact hnoi (by rw [hdd, e1]))]
      exact hu'
  · intro k dk hk hc hkl
    rw [hset] at hkl
    split at hkl
    · cases hkl
    · rename_i e0
      obtain ⟨q1, q2, q3⟩ := hnw k dk hk hc e0 hkl
      exact ⟨q1, q2, q3, (I.nw k dk hk hc hkl).2.2.2⟩

/-- What operation i looks at holds what it holds in the text's order. -/
theorem DInv.env (D : DR P call nt ops dl A hs ids v fr loud md) {listed : Array Bool} {a : Act} {w : World} {ρ : Ren} {g : Hp} (I : DInv ops dl hs ids v fr loud md nt ρ0 h0 w0 a0 listed a w ρ g)
    {i : Nat} {o : Oper} (ho : ops[i]? = some o) (hni : listed.getD i false = false) (hr : ∀ e ∈ o.after.toList, Region.binds .any e = true → listed.getD e.on false = true) {t : Tmp} (ht : t ∈ o.looksAt ops) {x : AV}
    (hx : (frAt (fun k => (ops[k]?).bind (·.dst)) v fr i).get t = some x) : ∃ u, a.tmps[t]? = some u ∧ Rel ρ x u := by
  have hi : i < ops.size := by
    rcases Nat.lt_or_ge i ops.size with hh | hh
    · exact hh
    · rw [Array.getElem?_eq_none hh] at ho; cases ho
  have hlt : ∀ k, (ops[k]?).bind (·.dst) = some t → k < ops.size := by
    intro k hk
    rcases Nat.lt_or_ge k ops.size with hh | hh
    · exact hh
    · rw [Array.getElem?_eq_none hh] at hk; cases hk
  by_cases hw : ∃ k, k ≠ i ∧ (ops[k]?).bind (·.dst) = some t ∧ listed.getD k false = true
  · obtain ⟨k, hki, hkd, hkl⟩ := hw
    -- listed: it stands before
    have hanc : isAnc A i k = true := by
      rcases (chkT_spec D.hT ho hkd (Ne.symm hki)).1 ht with h1 | h1
      · exact h1
      · have := (anc_closed D.hA I.cl k (hlt k hkd) hkl i h1).1
        simp only [hni] at this; cases this
    have hkltI := (anc_ready D.hA I.cl hi ho hr hanc).2
    have hone : ∀ m, m ≠ k → (ops[m]?).bind (·.dst) ≠ some t := by
      intro m hmk hmd
      obtain ⟨om, hom⟩ : ∃ om, ops[m]? = some om := ⟨ops[m]'(hlt m hmd), Array.getElem?_eq_getElem (hlt m hmd)⟩
      have := (chkT_spec D.hT hom hkd hmk).2
      rw [hom] at hmd
      exact this hmd
    rw [frAt_get_one hkd hkltI hone] at hx
    cases hx
    exact I.tl k t (hlt k hkd) hkl hkd
  · have hno : ∀ k, k < i → (ops[k]?).bind (·.dst) ≠ some t := by
      intro k hki hkd
      -- k stands before i: either way it is listed, or it stands behind
      rcases (chkT_spec D.hT ho hkd (by omega)).1 ht with h1 | h1
      · exact hw ⟨k, by omega, hkd, (anc_ready D.hA I.cl hi ho hr h1).1⟩
      · -- i ahead of k in the edges: then i < k
        have hall : Closed ops (fun _ => true) := fun _ _ _ _ _ _ _ => rfl
        have := (anc_closed D.hA hall k (hlt k hkd) rfl i h1).2
        omega
    rw [frAt_get_none hno] at hx
    refine I.tr t x (fun k hk hkl hkd => ?_) hx
    by_cases hki : k = i
    · subst hki; rw [hni] at hkl; cases hkl
    · exact hw ⟨k, hki, hkd, hkl⟩

/-- How many loud ones have come up when a loud one comes up. -/
theorem DInv.loudNow (D : DR P call nt ops dl A hs ids v fr loud md) {listed : Array Bool} {a : Act} {w : World} {ρ : Ren} {g : Hp} (I : DInv ops dl hs ids v fr loud md nt ρ0 h0 w0 a0 listed a w ρ g)
    {i : Nat} {o : Oper} (ho : ops[i]? = some o) (hni : listed.getD i false = false) (hr : ∀ e ∈ o.after.toList, Region.binds .any e = true → listed.getD e.on false = true) (hl : loud i = true) :
    cnt (fun k => loud k && listed.getD k false) ops.size = cnt loud i := by
  have hi : i < ops.size := by
    rcases Nat.lt_or_ge i ops.size with hh | hh
    · exact hh
    · rw [Array.getElem?_eq_none hh] at ho; cases ho
  rw [← cnt_below (p := loud) (n := ops.size) (Nat.le_of_lt hi)]
  refine cnt_congr fun k hk => ?_
  cases hlk : loud k with
  | false => rfl
  | true =>
    simp only [Bool.true_and]
    by_cases hki : k < i
    · have := (anc_ready D.hA I.cl hi ho hr (D.hL k i hki hi hlk hl)).1
      rw [this]; simp [hki]
    · by_cases e0 : k = i
      · subst e0; rw [hni]; simp
      · have hik : i < k := by omega
        cases hkl : listed.getD k false with
        | false => simp [hki]
        | true =>
          have := (anc_closed D.hA I.cl k hk hkl i (D.hL i k hik hk hl hlk)).1
          simp only [hni] at this; cases this

end
end Go.Lite
