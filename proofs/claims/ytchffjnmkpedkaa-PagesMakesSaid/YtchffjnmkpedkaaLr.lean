/-
  LITE, part r: a function that the evaluator carries out comes, in the model, to what it says. Own work of this session.
-/
import Derived.Test.YtchffjnmkpedkaaLq
namespace Go.Lite
open Go.RowKit

section
variable {P : Program} {call : Callee} {nt : Nat}

theorem evalDreg_ok (hc : CalleeOk P call) (hm : P.follows .mixedOrders = true) {ops : Array Oper} {dl : List DOp} (hl : lowerD P nt ops = some dl) {fr : Fr} {h : Hp} {fr' : Fr} {h' : Hp} (he : evalDreg call dl fr h = some (fr', h'))
    {ρ : Ren} {w : World} {a : Act} (H : HRel ρ h w) (F : FrRel ρ nt fr a) {Q : Exit → Act → World → Prop}
    (hQ : ∀ ρ' w' a', HRel ρ' h' w' → FrRel ρ' nt fr' a' → Step ρ h w ρ' h' w' → a'.defers = a.defers → Q .normal a' w') {id : Nat} : (Code.region id ops true).wp P Q a w := by
  unfold lowerD at hl
  split at hl
  case h_2 => cases hl
  rename_i sl hsl
  simp only at hl
  split at hl
  case isFalse => cases hl
  rename_i hchk
  simp only [Bool.and_eq_true] at hchk
  obtain ⟨⟨hA, hT⟩, hL⟩ := hchk
  simp only [Option.some.injEq] at hl
  generalize hAA : ancs ops.toList [] = A at *
  obtain ⟨hslen, hsget⟩ := lowerOps_get hsl
  simp only [Array.length_toList] at hslen
  unfold evalDreg at he
  simp only at he
  split at he
  case h_2 => cases he
  rename_i frN hs rs hev
  split at he
  case isFalse => cases he
  rename_i hro
  split at he
  case h_2 => cases he
  rename_i hN hlast
  simp only [Option.some.injEq, Prod.mk.injEq] at he
  obtain ⟨rfl, rfl⟩ := he
  obtain ⟨p1, p2, p3, p4, p5⟩ := hoist_spec dl h
  obtain ⟨_, _, vs, jn, tr, hjn⟩ := evalD_trace call dl _ _ _ _ _ _ _ _ hev 0 rfl rfl hro
  obtain ⟨t1, t2, t3⟩ := DTrace.at call tr
  have hdlen : dl.length = ops.size := by rw [← hl, withRange_length, hslen]
  have hget : ∀ (i : Nat) (o : Oper), ops[i]? = some o → ∃ s, sl[i]? = some s ∧ lowerOper P nt ops o = some s ∧ dl[i]? = some { s with lo := loudsBefore sl A i, hi := loudsNotBehind sl A i } := by
    intro i o ho
    obtain ⟨s, hs1, hs2⟩ := hsget i o (by simpa using ho)
    refine ⟨s, hs1, hs2, ?_⟩
    rw [← hl, withRange_get, hs1]
    simp
  have hdst : (fun (k : Nat) => ((dl[k]?).bind (fun x : DOp => x.dst))) = (fun (k : Nat) => (ops[k]?).bind (fun x : Oper => x.dst)) := by
    funext k
    cases ho : ops[k]? with
    | none =>
      have hk : ops.size ≤ k := by
        rcases Nat.lt_or_ge k ops.size with hh | hh
        · rw [Array.getElem?_eq_getElem hh] at ho; cases ho
        · exact hh
      rw [List.getElem?_eq_none (by rw [hdlen]; exact hk)]; rfl
    | some o =>
      obtain ⟨s, _, hs2, hs3⟩ := hget k o ho
      rw [hs3]
      simp only [Option.bind_some]
      have := (lowerOper_spec hs2).1
      cases hod : o.dst with
      | none => rw [hod] at this; simp only [lowerDst, Option.some.injEq] at this; exact this.symm
      | some t =>
        rw [hod] at this
        simp only [lowerDst] at this
        split at this
        · simp only [Option.some.injEq] at this; exact this.symm
        · cases this
  -- which are loud, by the lowered list
  have hloudS : ∀ (k : Nat), (match sl[k]? with | some s => s.o.cls == Cls.loud | none => false) = loudAt dl k := by
    intro k
    unfold loudAt
    rw [← hl, withRange_get]
    cases sl[k]? <;> rfl
  rw [hdst] at t1 t3
  have D : DR P call nt ops dl A hs (fun i => (hoist dl h).1.getD i 0) (fun k => vs.getD k .undef) fr (loudAt dl) := by
    refine ⟨hdlen, ?_, hA, hT, ?_, ?_⟩
    · intro i o ho
      obtain ⟨s, hs1, hs2, hs3⟩ := hget i o ho
      refine ⟨_, hs3, hs2, ?_, ?_, ?_, ?_⟩
      · unfold loudAt; rw [hs3]
      · show loudsBefore sl A i = _
        unfold loudsBefore cnt
        rw [hslen]
        refine congrArg List.length (congrArg (fun q => List.filter q (List.range ops.size)) (funext fun k => ?_))
        exact congrArg (fun b => b && isAnc A i k) (hloudS k)
      · show loudsNotBehind sl A i = _
        unfold loudsNotBehind cnt
        rw [hslen]
        refine congrArg List.length (congrArg (fun q => List.filter q (List.range ops.size)) (funext fun k => ?_))
        exact congrArg (fun b => b && !isAnc A k i) (hloudS k)
      · have := t3 i _ hs3
        simpa using this
    · intro i k hik hk hi1 hk1
      simp only [← hloudS] at hi1 hk1
      split at hi1
      · rename_i a1 ha1
        split at hk1
        · rename_i b1 hb1
          exact chkL_spec hL hik ha1 hb1 (by simpa using hi1) (by simpa using hk1)
        · cases hk1
      · cases hi1
    · intro i k d e c c' h1 h2 h3 h4 h5
      exact p5 i k d e c c' h1 h2 h3 h4 h5
  have hnoneAbove : ∀ b, h.next ≤ b → ρ b = none := fun b hb => H.none_of_le hb
  -- the start
  have H0 : HRel ρ (hoist dl h).2 w := ⟨fun b k l e1 e2 => H.blk b k l (by rw [← p3 b (H.dom b l e2).1]; exact e1) e2,
    fun b b' k k' l l' e1 e2 hk e3 e4 => H.one b b' k k' l l' (by rw [← p3 b (H.dom b l e3).1]; exact e1) (by rw [← p3 b' (H.dom b' l' e4).1]; exact e2) hk e3 e4,
    fun b l e1 => by have := H.dom b l e1; omega⟩
  have S0 : Step ρ h w ρ (hoist dl h).2 w := ⟨Ren.le_refl _, fun b l e e' => (by rw [e] at e'; cases e'), p2, rfl, rfl, rfl, Nat.le_refl _, fun _ _ _ => rfl,
    fun r _ ⟨b, k, l, e1, e2, e3, e4⟩ => ⟨b, k, l, by rw [← p3 b (H.dom b l e3).1]; exact e1, e2, e3, e4⟩, fun b hb _ => p3 b hb, fun b k hb e1 _ => by rw [← p3 b hb]; exact e1⟩
  have I0 : DInv ops dl hs (fun i => (hoist dl h).1.getD i 0) (fun k => vs.getD k .undef) fr (loudAt dl) nt ρ h w a
      (Array.replicate ops.size false) a w.drew ρ (hoist dl h).2 := by
    have hno : ∀ k, (Array.replicate ops.size false).getD k false = false := by
      intro k
      rw [Array.getD_eq_getD_getElem?, Array.getElem?_replicate]
      split <;> rfl
    refine ⟨by simp, ?_, ?_, H0.drew, F.1, ?_, ?_, ?_, S0.trans Step.drew, rfl⟩
    · intro i o _ hi; simp only [hno] at hi; cases hi
    · have : cnt (fun (k : Nat) => loudAt dl k && (Array.replicate ops.size false).getD k false) ops.size = cnt (fun _ => false) ops.size := cnt_congr fun k _ => by rw [hno]; simp
      rw [this]
      have h00 : cnt (fun _ => false) ops.size = 0 := by simp [cnt]
      rw [h00]
      obtain ⟨⟨t, ht⟩, _, _⟩ := evalD_trace call dl _ _ _ _ _ _ _ _ hev 0 rfl rfl hro
      rw [ht]; rfl
    · intro k t _ hk; rw [hno] at hk; cases hk
    · intro t x _ hx; exact F.2 t x hx
    · intro i d cells hd hdo _
      obtain ⟨q1, q2, q3⟩ := p4 i d cells hd hdo
      exact ⟨hnoneAbove _ q1, q3, q2, q1⟩
  refine wp_region_any hm ?_
  change wpAny P .any ops Q ops.size (Array.replicate ops.size false) a w.drew
  refine dreg_any hc D ?_ ops.size _ _ _ ρ _ I0 (by
    have := cnt_le (p := fun k => !(Array.replicate ops.size false).getD k false) (q := fun _ => true) (n := ops.size) (fun _ _ _ => rfl)
    have h2 : cnt (fun _ => true) ops.size = ops.size := by
      unfold cnt; rw [List.filter_eq_self.2 (fun _ _ => rfl), List.length_range]
    omega)
  intro listed a' w' ρ' g I hall
  have hg : g = hN := by
    have h1 := I.hg
    have h2 : cnt (fun (k : Nat) => loudAt dl k && listed.getD k false) ops.size = jn := by
      rw [t2, hdlen, Nat.zero_add]
      exact cnt_congr fun k hk => by rw [hall k hk]; simp
    rw [h2] at h1
    rw [List.getLast?_eq_getElem?, hjn] at hlast
    simp only [Nat.add_sub_cancel] at hlast
    rw [h1] at hlast
    cases hlast; rfl
  subst hg
  refine hQ ρ' w' a' I.H ⟨I.tn, ?_⟩ I.st I.df
  intro t x hx
  rw [t1, hdlen] at hx
  by_cases hw : ∃ k, k < ops.size ∧ (ops[k]?).bind (·.dst) = some t
  · obtain ⟨k, hk, hkd⟩ := hw
    have hone : ∀ m, m ≠ k → (ops[m]?).bind (·.dst) ≠ some t := by
      intro m hmk hmd
      have hm' : m < ops.size := by
        rcases Nat.lt_or_ge m ops.size with hh | hh
        · exact hh
        · rw [Array.getElem?_eq_none hh] at hmd; cases hmd
      obtain ⟨om, hom⟩ : ∃ om, ops[m]? = some om := ⟨ops[m]'hm', Array.getElem?_eq_getElem hm'⟩
      have := (chkT_spec hT hom hkd hmk).2
      rw [hom] at hmd
      exact this hmd
    rw [frAt_get_one hkd hk hone] at hx
    cases hx
    exact I.tl k t hk (hall k hk) hkd
  · have hno : ∀ k, k < ops.size → (ops[k]?).bind (·.dst) ≠ some t := fun k hk hkd => hw ⟨k, hk, hkd⟩
    rw [frAt_get_none hno] at hx
    exact I.tr t x (fun k hk _ => hno k hk) hx

/-! ### The code -/
def exitOf : X → Exit
  | .normal => .normal
  | .exit id => .exit id
  | .ret => .ret

theorem evalS_ok (hc : CalleeOk P call) (hm : P.follows .mixedOrders = true) (n : Nat) : ∀ (c : Code) (s : S), lowerCode P nt c = some s → ∀ {fr : Fr} {h : Hp} {x : X} {fr' : Fr} {h' : Hp}, evalS call n s fr h = some (x, fr', h') →
    ∀ {ρ : Ren} {w : World} {a : Act}, HRel ρ h w → FrRel ρ nt fr a → ∀ {Q : Exit → Act → World → Prop}, (∀ ρ' w' a', HRel ρ' h' w' → FrRel ρ' nt fr' a' → Step ρ h w ρ' h' w' → a'.defers = a.defers → Q (exitOf x) a' w') → c.wp P Q a w
  | .skip, s, hl, fr, h, x, fr', h', he, ρ, w, a, H, F, Q, hQ => by
    simp only [lowerCode, Option.some.injEq] at hl; subst hl
    simp only [evalS, Option.some.injEq, Prod.mk.injEq] at he; obtain ⟨rfl, rfl, rfl⟩ := he
    exact wp_skip (hQ ρ w a H F (Step.refl _ _ _) rfl)
  | .label l, s, hl, fr, h, x, fr', h', he, ρ, w, a, H, F, Q, hQ => by
    simp only [lowerCode, Option.some.injEq] at hl; subst hl
    simp only [evalS, Option.some.injEq, Prod.mk.injEq] at he; obtain ⟨rfl, rfl, rfl⟩ := he
    exact wp_label (hQ ρ w a H F (Step.refl _ _ _) rfl)
  | .exit id, s, hl, fr, h, x, fr', h', he, ρ, w, a, H, F, Q, hQ => by
    simp only [lowerCode, Option.some.injEq] at hl; subst hl
    simp only [evalS, Option.some.injEq, Prod.mk.injEq] at he; obtain ⟨rfl, rfl, rfl⟩ := he
    exact wp_exit (hQ ρ w a H F (Step.refl _ _ _) rfl)
  | .ret, s, hl, fr, h, x, fr', h', he, ρ, w, a, H, F, Q, hQ => by
    simp only [lowerCode, Option.some.injEq] at hl; subst hl
    simp only [evalS, Option.some.injEq, Prod.mk.injEq] at he; obtain ⟨rfl, rfl, rfl⟩ := he
    exact wp_ret (hQ ρ w a H F (Step.refl _ _ _) rfl)
  | .seq c1 c2, s, hl, fr, h, x, fr', h', he, ρ, w, a, H, F, Q, hQ => by
    simp only [lowerCode] at hl
    split at hl
    case h_2 => cases hl
    rename_i s1 s2 e1 e2
    cases hl
    simp only [evalS] at he
    split at he
    · rename_i fr1 h1 he1
      refine wp_seq (evalS_ok hc hm n c1 s1 e1 he1 H F ?_)
      intro ρ1 w1 a1 H1 F1 st1 d1
      refine evalS_ok hc hm n c2 s2 e2 he H1 F1 ?_
      intro ρ2 w2 a2 H2 F2 st2 d2
      exact hQ ρ2 w2 a2 H2 F2 (st1.trans st2) (d2.trans d1)
    · rename_i r hr
      refine wp_seq (evalS_ok hc hm n c1 s1 e1 he H F ?_)
      intro ρ1 w1 a1 H1 F1 st1 d1
      have := hQ ρ1 w1 a1 H1 F1 st1 d1
      cases x with
      | normal => exact absurd he (hr fr' h')
      | exit id => exact this
      | ret => exact this
  | .cond z c1 c2, s, hl, fr, h, x, fr', h', he, ρ, w, a, H, F, Q, hQ => by
    simp only [lowerCode] at hl
    split at hl
    case h_2 => cases hl
    rename_i z' s1 s2 ez e1 e2
    cases hl
    simp only [evalS] at he
    split at he
    · rename_i hz
      have r := rel_boolv (F.env z _ _ ez hz)
      exact wp_cond_true r (evalS_ok hc hm n c1 s1 e1 he H F hQ)
    · rename_i hz
      have r := rel_boolv (F.env z _ _ ez hz)
      exact wp_cond_false r (evalS_ok hc hm n c2 s2 e2 he H F hQ)
    · cases he
  | .block id c1, s, hl, fr, h, x, fr', h', he, ρ, w, a, H, F, Q, hQ => by
    simp only [lowerCode, Option.map_eq_some_iff] at hl
    obtain ⟨s1, e1, rfl⟩ := hl
    simp only [evalS] at he
    split at he
    · rename_i i fr1 h1 he1
      split at he
      · rename_i hi
        subst hi
        simp only [Option.some.injEq, Prod.mk.injEq] at he; obtain ⟨rfl, rfl, rfl⟩ := he
        refine wp_block (evalS_ok hc hm n c1 s1 e1 he1 H F ?_)
        intro ρ1 w1 a1 H1 F1 st1 d1
        have := hQ ρ1 w1 a1 H1 F1 st1 d1
        simpa [Exit.inBlock, exitOf] using this
      · rename_i hi
        simp only [Option.some.injEq, Prod.mk.injEq] at he; obtain ⟨rfl, rfl, rfl⟩ := he
        refine wp_block (evalS_ok hc hm n c1 s1 e1 he1 H F ?_)
        intro ρ1 w1 a1 H1 F1 st1 d1
        have := hQ ρ1 w1 a1 H1 F1 st1 d1
        simpa [Exit.inBlock, exitOf, hi] using this
    · rename_i r hr
      refine wp_block (evalS_ok hc hm n c1 s1 e1 he H F ?_)
      intro ρ1 w1 a1 H1 F1 st1 d1
      have := hQ ρ1 w1 a1 H1 F1 st1 d1
      cases x with
      | normal => exact this
      | exit id' => exact absurd he (hr id' fr' h')
      | ret => exact this
  | .loop c1, s, hl, fr, h, x, fr', h', he, ρ, w, a, H, F, Q, hQ => by
    simp only [lowerCode, Option.map_eq_some_iff] at hl
    obtain ⟨s1, e1, rfl⟩ := hl
    simp only [evalS] at he
    have key : ∀ (m : Nat) {fr : Fr} {h : Hp}, iter (evalS call n s1) m fr h = some (x, fr', h') → ∀ {ρ : Ren} {w : World} {a : Act}, HRel ρ h w → FrRel ρ nt fr a →
        (∀ ρ' w' a', HRel ρ' h' w' → FrRel ρ' nt fr' a' → Step ρ h w ρ' h' w' → a'.defers = a.defers → Q (exitOf x) a' w') → Code.rounds P c1 Q m a w := by
      intro m
      induction m with
      | zero => intro fr h he; simp [iter] at he
      | succ m ih =>
        intro fr h he ρ w a H F hQ
        simp only [iter] at he
        rw [rounds_succ]
        split at he
        · rename_i fr1 h1 he1
          refine evalS_ok hc hm n c1 s1 e1 he1 H F ?_
          intro ρ1 w1 a1 H1 F1 st1 d1
          refine ih he H1 F1 ?_
          intro ρ2 w2 a2 H2 F2 st2 d2
          exact hQ ρ2 w2 a2 H2 F2 (st1.trans st2) (d2.trans d1)
        · rename_i r hr
          refine evalS_ok hc hm n c1 s1 e1 he H F ?_
          intro ρ1 w1 a1 H1 F1 st1 d1
          have := hQ ρ1 w1 a1 H1 F1 st1 d1
          cases x with
          | normal => exact absurd he (hr fr' h')
          | exit id => exact this
          | ret => exact this
    exact wp_loop_rounds n (key n he H F hQ)
  | .region id ops false, s, hl, fr, h, x, fr', h', he, ρ, w, a, H, F, Q, hQ => by
    simp only [lowerCode, Option.map_eq_some_iff] at hl
    obtain ⟨sl, e1, rfl⟩ := hl
    simp only [evalS, Option.map_eq_some_iff, Prod.mk.injEq] at he
    obtain ⟨⟨fr1, h1⟩, he1, rfl, rfl, rfl⟩ := he
    exact wp_region_list (evalOps_ok hc ops.toList sl e1 he1 H F hQ)
  | .region id ops true, s, hl, fr, h, x, fr', h', he, ρ, w, a, H, F, Q, hQ => by
    simp only [lowerCode, Option.map_eq_some_iff] at hl
    obtain ⟨dl, e1, rfl⟩ := hl
    simp only [evalS, Option.map_eq_some_iff, Prod.mk.injEq] at he
    obtain ⟨⟨fr1, h1⟩, he1, rfl, rfl, rfl⟩ := he
    exact evalDreg_ok hc hm e1 he1 H F hQ
  | .scope _, s, hl, _, _, _, _, _, _, _, _, _, _, _, _, _ => by simp [lowerCode] at hl
  | .goto _, s, hl, _, _, _, _, _, _, _, _, _, _, _, _, _ => by simp [lowerCode] at hl
  | .rangeFunc .., s, hl, _, _, _, _, _, _, _, _, _, _, _, _, _ => by simp [lowerCode] at hl
  | .refuse _, s, hl, _, _, _, _, _, _, _, _, _, _, _, _, _ => by simp [lowerCode] at hl

end
end Go.Lite
