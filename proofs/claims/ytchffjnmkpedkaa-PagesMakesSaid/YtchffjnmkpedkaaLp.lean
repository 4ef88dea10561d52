/-
  LITE, part p: a region whose order is open: the proof. Own work of this session.
-/
import Derived.Test.YtchffjnmkpedkaaLo
namespace Go.Lite
open Go.RowKit

section
variable {P : Program} {call : Callee} {nt : Nat}

theorem lowerOp_new {op : Op} {cells : List AV} (h : lowerOp P op = some (.new cells)) : ∃ e, op = .alloc e ∧ zeroT P e = some cells := by
  cases op with
  | alloc e =>
    simp only [lowerOp, Option.map_eq_some_iff] at h
    obtain ⟨c, hc, e1⟩ := h
    cases e1
    exact ⟨e, rfl, hc⟩
  | call c =>
    simp only [lowerOp, lowerCall, lowerLen, lowerCap, lowerAppend, lowerCopy, lowerMM] at h
    exfalso
    repeat' (first | (split at h) | (rw [Option.map_eq_some_iff] at h; obtain ⟨_, _, h⟩ := h))
    all_goals cases h
  | makeFunc f _ _ =>
    exfalso
    cases f <;> simp only [lowerOp, reduceCtorEq] at h
    repeat' (split at h)
    all_goals cases h
  | _ =>
    exfalso
    simp only [lowerOp, reduceCtorEq] at h
    try (repeat' (first | (split at h) | (rw [Option.map_eq_some_iff] at h; obtain ⟨_, _, h⟩ := h)))
    all_goals cases h

/-- What is fixed of a region. -/
structure DR (P : Program) (call : Callee) (nt : Nat) (ops : Array Oper) (dl : List DOp) (A : List (List Nat)) (hs : List Hp) (ids : Nat → Nat) (v : Nat → AV) (fr : Fr) (loud : Nat → Bool) : Prop where
  len : dl.length = ops.size
  op : ∀ (i : Nat) (o : Oper), ops[i]? = some o → ∃ d : DOp, dl[i]? = some d ∧ lowerOper P nt ops o = some d.toSOp ∧ loud i = (d.o.cls == .loud) ∧
    d.lo = cnt (fun k => loud k && isAnc A i k) ops.size ∧ d.hi = cnt (fun k => loud k && !isAnc A k i) ops.size ∧
    Just call d (frAt (fun k => (ops[k]?).bind (·.dst)) v fr i) hs (cnt loud i) (ids i) (v i)
  hA : chkA ops A = true
  hT : chkT ops A = true
  hL : ∀ (i k : Nat), i < k → k < ops.size → loud i = true → loud k = true → isAnc A k i = true
  ids : ∀ (i k : Nat) (d e : DOp) (c c' : List AV), dl[i]? = some d → d.o = .new c → dl[k]? = some e → e.o = .new c' → ids i = ids k → i = k

/-- What holds while operations come up. -/
structure DInv (ops : Array Oper) (dl : List DOp) (hs : List Hp) (ids : Nat → Nat) (v : Nat → AV) (fr : Fr) (loud : Nat → Bool) (nt : Nat) (ρ0 : Ren) (h0 : Hp) (w0 : World) (a0 : Act) (listed : Array Bool) (a : Act) (w : World) (ρ : Ren) (g : Hp) : Prop where
  sz : listed.size = ops.size
  cl : Closed ops (fun k => listed.getD k false)
  hg : hs[cnt (fun k => loud k && listed.getD k false) ops.size]? = some g
  H : HRel ρ g w
  tn : nt ≤ a.tmps.size
  tl : ∀ (k : Nat) (t : Tmp), k < ops.size → listed.getD k false = true → (ops[k]?).bind (·.dst) = some t → ∃ u, a.tmps[t]? = some u ∧ Rel ρ (v k) u
  tr : ∀ (t : Tmp) (x : AV), (∀ k, k < ops.size → listed.getD k false = true → (ops[k]?).bind (·.dst) ≠ some t) → fr.get t = some x → ∃ u, a.tmps[t]? = some u ∧ Rel ρ x u
  nw : ∀ (i : Nat) (d : DOp) (cells : List AV), dl[i]? = some d → d.o = .new cells → listed.getD i false = false → ρ (ids i) = none ∧ g.get (ids i) = some ⟨cells, .own⟩ ∧ ids i < g.next ∧ h0.next ≤ ids i
  st : Step ρ0 h0 w0 ρ g w
  df : a.defers = a0.defers

theorem listed_set {listed : Array Bool} {i k : Nat} (hi : i < listed.size) : (listed.setIfInBounds i true).getD k false = if k = i then true else listed.getD k false := by
  rw [Array.getD_eq_getD_getElem?, Array.getD_eq_getD_getElem?, Array.getElem?_setIfInBounds]
  by_cases h : k = i
  · subst h; simp [hi]
  · rw [if_neg (Ne.symm h), if_neg h]

variable {ops : Array Oper} {dl : List DOp} {A : List (List Nat)} {hs : List Hp} {ids : Nat → Nat} {v : Nat → AV} {fr : Fr} {loud : Nat → Bool} {ρ0 : Ren} {h0 : Hp} {w0 : World} {a0 : Act}

/-- The step: operation i has come up and left u. -/
theorem DInv.next (D : DR P call nt ops dl A hs ids v fr loud) {listed : Array Bool} {a : Act} {w : World} {ρ : Ren} {g : Hp} (I : DInv ops dl hs ids v fr loud nt ρ0 h0 w0 a0 listed a w ρ g)
    {i : Nat} {o : Oper} (ho : ops[i]? = some o) (hni : listed.getD i false = false) (hr : ∀ e ∈ o.after.toList, Region.binds .any e = true → listed.getD e.on false = true)
    {u : Value} {ρ' : Ren} {g' : Hp} {w' : World} (hle : ρ.le ρ') (r : Rel ρ' (v i) u) (H' : HRel ρ' g' w') (hg' : hs[cnt (fun k => loud k && listed.getD k false) ops.size + (if loud i = true then 1 else 0)]? = some g')
    (hnw : ∀ (k : Nat) (d : DOp) (cells : List AV), dl[k]? = some d → d.o = .new cells → k ≠ i → listed.getD k false = false → ρ' (ids k) = none ∧ g'.get (ids k) = some ⟨cells, .own⟩ ∧ ids k < g'.next)
    (hst : Step ρ0 h0 w0 ρ' g' w') : DInv ops dl hs ids v fr loud nt ρ0 h0 w0 a0 (listed.setIfInBounds i true) (a.put o.dst u) w' ρ' g' := by
  have hi : i < ops.size := by
    rcases Nat.lt_or_ge i ops.size with hh | hh
    · exact hh
    · rw [Array.getElem?_eq_none hh] at ho; cases ho
  have hil : i < listed.size := by rw [I.sz]; exact hi
  have hset : ∀ k, (listed.setIfInBounds i true).getD k false = if k = i then true else listed.getD k false := fun k => listed_set hil
  obtain ⟨d, hd, hlow, _⟩ := D.op i o ho
  have hdst := (lowerOper_spec hlow).1
  refine ⟨by simp [I.sz], ?_, ?_, H', ?_, ?_, ?_, ?_, hst, (put_defers' _ _ _).trans I.df⟩
  · intro k ok hok hk e he hb
    simp only [hset] at hk ⊢
    by_cases e0 : k = i
    · subst e0
      rw [ho] at hok; cases hok
      have := hr e he hb
      split
      · rfl
      · exact this
    · rw [if_neg e0] at hk
      have := I.cl k ok hok hk e he hb
      split
      · rfl
      · exact this
  · rw [← hg']
    congr 1
    by_cases hl : loud i = true
    · rw [if_pos hl]
      refine cnt_insert (i := i) hi (by simp [hni]) (by simp [hset, hl]) (fun k hk => by rw [hset, if_neg hk])
    · rw [if_neg hl]
      refine cnt_congr fun k _ => ?_
      rw [hset]
      by_cases e0 : k = i
      · subst e0; simp [hl]
      · rw [if_neg e0]
  · cases hdd : o.dst with
    | none => simpa [Act.put] using I.tn
    | some t => simpa [Act.put] using I.tn
  · intro k t hk hkl hkd
    rw [hset] at hkl
    by_cases e0 : k = i
    · subst e0
      rw [ho] at hkd
      simp only [Option.bind_some] at hkd
      rw [hkd] at hdst
      simp only [lowerDst] at hdst
      split at hdst
      · rename_i hlt
        refine ⟨u, ?_, r⟩
        rw [hkd]
        have : t < a.tmps.size := Nat.lt_of_lt_of_le hlt I.tn
        simp [Act.put, this]
      · cases hdst
    · rw [if_neg e0] at hkl
      obtain ⟨u', hu', r'⟩ := I.tl k t hk hkl hkd
      refine ⟨u', ?_, Rel.mono hle r'⟩
      have hne := (chkT_spec D.hT ho hkd (Ne.symm e0)).2
      cases hdd : o.dst with
      | none => simpa [Act.put] using hu'
      | some s =>
        simp only [Act.put]
        rw [Array.getElem?_setIfInBounds, if_neg (by intro e1; exact hne (by rw [hdd, e1]))]
        exact hu'
  · intro t x hno hx
    have hnoi : o.dst ≠ some t := by
      have := hno i hi (by rw [hset, if_pos rfl])
      rw [ho] at this
      exact this
    obtain ⟨u', hu', r'⟩ := I.tr t x (fun k hk hkl => hno k hk (by rw [hset]; split <;> simp_all)) hx
    refine ⟨u', ?_, Rel.mono hle r'⟩
    cases hdd : o.dst with
    | none => simpa [Act.put] using hu'
    | some s =>
      simp only [Act.put]
      rw [Array.getElem?_setIfInBounds, if_neg (by intro e1; exact hnoi (by rw [hdd, e1]))]
      exact hu'
  · intro k dk cells hk hc hkl
    rw [hset] at hkl
    split at hkl
    · cases hkl
    · rename_i e0
      obtain ⟨q1, q2, q3⟩ := hnw k dk cells hk hc e0 hkl
      exact ⟨q1, q2, q3, (I.nw k dk cells hk hc hkl).2.2.2⟩

/-- What operation i looks at holds what it holds in the text's order. -/
theorem DInv.env (D : DR P call nt ops dl A hs ids v fr loud) {listed : Array Bool} {a : Act} {w : World} {ρ : Ren} {g : Hp} (I : DInv ops dl hs ids v fr loud nt ρ0 h0 w0 a0 listed a w ρ g)
    {i : Nat} {o : Oper} (ho : ops[i]? = some o) (hni : listed.getD i false = false) (hr : ∀ e ∈ o.after.toList, Region.binds .any e = true → listed.getD e.on false = true) {t : Tmp} (ht : t ∈ o.looksAt ops) {x : AV}
    (hx : (frAt (fun k => (ops[k]?).bind (·.dst)) v fr i).get t = some x) : ∃ u, a.tmps[t]? = some u ∧ Rel ρ x u := by
  have hi : i < ops.size := by
    rcases Nat.lt_or_ge i ops.size with hh | hh
    · exact hh
    · rw [Array.getElem?_eq_none hh] at ho; cases ho
  have hlt : ∀ k, (ops[k]?).bind (·.dst) = some t → k < ops.size := by
    intro k hk
    rcases Nat.lt_or_ge k ops.size with hh | hh
    · exact hh
    · rw [Array.getElem?_eq_none hh] at hk; cases hk
  by_cases hw : ∃ k, k ≠ i ∧ (ops[k]?).bind (·.dst) = some t ∧ listed.getD k false = true
  · obtain ⟨k, hki, hkd, hkl⟩ := hw
    -- listed: it stands before
    have hanc : isAnc A i k = true := by
      rcases (chkT_spec D.hT ho hkd (Ne.symm hki)).1 ht with h1 | h1
      · exact h1
      · have := (anc_closed D.hA I.cl k (hlt k hkd) hkl i h1).1
        simp only [hni] at this; cases this
    have hkltI := (anc_ready D.hA I.cl hi ho hr hanc).2
    have hone : ∀ m, m ≠ k → (ops[m]?).bind (·.dst) ≠ some t := by
      intro m hmk hmd
      obtain ⟨om, hom⟩ : ∃ om, ops[m]? = some om := ⟨ops[m]'(hlt m hmd), Array.getElem?_eq_getElem (hlt m hmd)⟩
      have := (chkT_spec D.hT hom hkd hmk).2
      rw [hom] at hmd
      exact this hmd
    rw [frAt_get_one hkd hkltI hone] at hx
    cases hx
    exact I.tl k t (hlt k hkd) hkl hkd
  · have hno : ∀ k, k < i → (ops[k]?).bind (·.dst) ≠ some t := by
      intro k hki hkd
      -- k stands before i: either way it is listed, or it stands behind
      rcases (chkT_spec D.hT ho hkd (by omega)).1 ht with h1 | h1
      · exact hw ⟨k, by omega, hkd, (anc_ready D.hA I.cl hi ho hr h1).1⟩
      · -- i ahead of k in the edges: then i < k
        have hall : Closed ops (fun _ => true) := fun _ _ _ _ _ _ _ => rfl
        have := (anc_closed D.hA hall k (hlt k hkd) rfl i h1).2
        omega
    rw [frAt_get_none hno] at hx
    refine I.tr t x (fun k hk hkl hkd => ?_) hx
    by_cases hki : k = i
    · subst hki; rw [hni] at hkl; cases hkl
    · exact hw ⟨k, hki, hkd, hkl⟩

/-- How many loud ones have come up when a loud one comes up. -/
theorem DInv.loudNow (D : DR P call nt ops dl A hs ids v fr loud) {listed : Array Bool} {a : Act} {w : World} {ρ : Ren} {g : Hp} (I : DInv ops dl hs ids v fr loud nt ρ0 h0 w0 a0 listed a w ρ g)
    {i : Nat} {o : Oper} (ho : ops[i]? = some o) (hni : listed.getD i false = false) (hr : ∀ e ∈ o.after.toList, Region.binds .any e = true → listed.getD e.on false = true) (hl : loud i = true) :
    cnt (fun k => loud k && listed.getD k false) ops.size = cnt loud i := by
  have hi : i < ops.size := by
    rcases Nat.lt_or_ge i ops.size with hh | hh
    · exact hh
    · rw [Array.getElem?_eq_none hh] at ho; cases ho
  rw [← cnt_below (p := loud) (n := ops.size) (Nat.le_of_lt hi)]
  refine cnt_congr fun k hk => ?_
  cases hlk : loud k with
  | false => rfl
  | true =>
    simp only [Bool.true_and]
    by_cases hki : k < i
    · have := (anc_ready D.hA I.cl hi ho hr (D.hL k i hki hi hlk hl)).1
      rw [this]; simp [hki]
    · by_cases e0 : k = i
      · subst e0; rw [hni]; simp
      · have hik : i < k := by omega
        cases hkl : listed.getD k false with
        | false => simp [hki]
        | true =>
          have := (anc_closed D.hA I.cl k hk hkl i (D.hL i k hik hk hl hlk)).1
          simp only [hni] at this; cases this

end
end Go.Lite
