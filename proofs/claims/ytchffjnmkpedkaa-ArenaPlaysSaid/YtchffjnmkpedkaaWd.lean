/-
  SEP, part d: several things as one; facts that memory tells. Own work of this session.
-/
import Derived.Test.YtchffjnmkpedkaaWc
set_option linter.unusedSectionVars false
set_option linter.unusedSimpArgs false
set_option linter.unusedVariables false
namespace Go.Lite.Sep
set_option linter.unusedSectionVars false
set_option linter.unusedSimpArgs false
set_option linter.unusedVariables false
open Go.Lite
open Asn (pts slb sl)
variable {F : FuncId → Option Def} {L L0 : Env} {A A' : Per} {Hs Hs' R Gs : List Asn} {Q : Post} {s : S} {Qd : Env → Per → List Asn → Prop} {ids : List (Nat × List AV)} {hist : Hist} {rs : List RD} {l : List DOp}

def star (Hs : List Asn) : Asn := .ext (fun D h => Sat h Hs D) (fun s hd => s.loc hd)
def exA {α : Type} (f : α → Asn) : Asn := .ext (fun D h => ∃ x, (f x).p D h) (fun ⟨x, hp⟩ hd => ⟨x, Asn.loc _ hp hd⟩)

theorem Ent.of_sat (h : ∀ hp D, Sat hp Hs D → Sat hp Hs' D) : Ent A Hs A Hs' := fun hp D s => ⟨D, ⟨h hp D s.sat, s.nd, s.lt, s.per⟩, Mv.refl _ _ _⟩
/-- The order does not matter. -/
theorem Ent.perm (hp : Hs.Perm Hs') : Ent A Hs A Hs' := by
  have key : ∀ {h : Hp} {D : List Nat}, Sat h Hs D → ∃ D', D.Perm D' ∧ Sat h Hs' D' := by
    induction hp with
    | nil => intro h D s; exact ⟨D, .refl _, s⟩
    | cons x _ ih =>
      intro h D s
      cases s with
      | cons hx s =>
        obtain ⟨D', p, s'⟩ := ih s
        exact ⟨_, p.append_left _, .cons hx s'⟩
    | swap x y l =>
      intro h D s
      cases s with
      | cons hy s =>
        cases s with
        | cons hx s => exact ⟨_, List.perm_append_comm_assoc _ _ _, .cons hx (.cons hy s)⟩
    | trans _ _ ih1 ih2 =>
      intro h D s
      obtain ⟨D1, p1, s1⟩ := ih1 s
      obtain ⟨D2, p2, s2⟩ := ih2 s1
      exact ⟨D2, p1.trans p2, s2⟩
  intro h D s
  obtain ⟨D', p, s'⟩ := key s.sat
  exact ⟨D', ⟨s', p.nodup_iff.1 s.nd, fun d hd => s.lt d (p.mem_iff.2 hd), fun q hq => ⟨(s.per q hq).1, fun hh => (s.per q hq).2.1 (p.mem_iff.2 hh), (s.per q hq).2.2⟩⟩, Nat.le_refl _, fun _ _ _ => rfl, fun d hd => .inl (p.mem_iff.2 hd), fun _ hq => hq, fun _ hq => .inl hq⟩
theorem Ent.front (i : Nat) {P : Asn} (hi : Hs[i]? = some P) : Ent A Hs A (P :: Hs.eraseIdx i) := by
  refine Ent.perm ?_
  induction Hs generalizing i with
  | nil => simp at hi
  | cons a l ih =>
    cases i with
    | zero => simp at hi; subst hi; exact .refl _
    | succ i =>
      simp only [List.getElem?_cons_succ] at hi
      rw [List.eraseIdx_cons_succ]
      exact (List.Perm.cons a (ih i hi)).trans (.swap _ _ _)

theorem Ent.unstar : Ent A (star Gs :: R) A (Gs ++ R) := Ent.of_sat fun h D s => by
  cases s with
  | cons hp s => exact Sat.append hp s
theorem Ent.star : Ent A (Gs ++ R) A (Sep.star Gs :: R) := Ent.of_sat fun h D s => by
  obtain ⟨D1, D2, rfl, s1, s2⟩ := s.split
  exact .cons s1 s2
theorem Ent.starEnd : Ent A (Hs ++ Gs) A (Hs ++ [Sep.star Gs]) := Ent.of_sat fun h D s => by
  obtain ⟨D1, D2, rfl, s1, s2⟩ := s.split
  have h2 : Sat h [Sep.star Gs] (D2 ++ []) := .cons s2 .nil
  rw [List.append_nil] at h2
  exact s1.append h2
theorem Ent.unstarEnd : Ent A (Hs ++ [Sep.star Gs]) A (Hs ++ Gs) := Ent.of_sat fun h D s => by
  obtain ⟨D1, D2, rfl, s1, s2⟩ := s.split
  cases s2 with
  | cons hp s2 =>
    cases s2
    rw [List.append_nil]
    exact s1.append hp
theorem Ent.unstarAt (i : Nat) (hi : Hs[i]? = some (Sep.star Gs)) : Ent A Hs A (Hs.eraseIdx i ++ Gs) := fun h D s => by
  obtain ⟨D1, s1, m1⟩ := Ent.front (A := A) i hi h D s
  obtain ⟨D2, s2, m2⟩ := Ent.perm (A := A) (Hs := Sep.star Gs :: Hs.eraseIdx i) (Hs' := Hs.eraseIdx i ++ [Sep.star Gs]) (List.perm_append_comm (l₁ := [_])) h D1 s1
  obtain ⟨D3, s3, m3⟩ := Ent.unstarEnd h D2 s2
  exact ⟨D3, s3, (m1.trans m2).trans m3⟩
theorem Ent.ex {α : Type} {f : α → Asn} (x : α) (i : Nat) (hi : Hs[i]? = some (f x)) : Ent A Hs A (Hs.set i (exA f)) := Ent.at i hi fun D h hp => ⟨x, hp⟩

theorem WP.unstarAt (i : Nat) (hi : Hs[i]? = some (Sep.star Gs)) (h : WP F s L A (Hs.eraseIdx i ++ Gs) Q) : WP F s L A Hs Q := WP.ent (Ent.unstarAt i hi) h
theorem WP.unex {α : Type} {f : α → Asn} (i : Nat) (hi : Hs[i]? = some (exA f)) (h : ∀ x, WP F s L A (Hs.set i (f x)) Q) : WP F s L A Hs Q := .mk fun fr hp D p1 p2 => by
  obtain ⟨DL, D1, DR, rfl, ⟨x, r1⟩, _, r3⟩ := p2.sat.at hi
  exact (h x).run fr hp _ p1 ⟨r3 r1 fun _ _ => rfl, p2.nd, p2.lt, p2.per⟩
theorem Does.unex {f : FuncId} {args : List AV} {Qf : AV → Per → List Asn → Prop} {α : Type} {g : α → Asn} (i : Nat) (hi : Hs[i]? = some (exA g)) (h : ∀ x, Does F f args A (Hs.set i (g x)) Qf) : Does F f args A Hs Qf := fun hp D p2 => by
  obtain ⟨DL, D1, DR, rfl, ⟨x, r1⟩, _, r3⟩ := p2.sat.at hi
  exact h x hp _ ⟨r3 r1 fun _ _ => rfl, p2.nd, p2.lt, p2.per⟩
theorem Does.frame {f : FuncId} {args : List AV} {H1 : List Asn} {Q1 : AV → Per → List Asn → Prop} (h : Does F f args A H1 Q1) (R : List Asn) : Does F f args A (H1 ++ R) fun v A' H' => ∃ H1', H' = H1' ++ R ∧ Q1 v A' H1' := fun hp D s => by
  obtain ⟨D1, D2, rfl, s1, s2⟩ := s.sat.split
  have s0 : Own A (H1 ++ R) hp ([] ++ (D1 ++ D2)) := s
  obtain ⟨v, h', A', H1', D1', e, p1, p2, p3⟩ := h hp D1 (s0.sub s1)
  obtain ⟨q1, q2⟩ := s0.part (H1 := H1' ++ R) p2 p1 (fun hd => by
    have := p1.sat.append (s2.loc fun d hm => hd d (by simpa using hm))
    simpa using this)
  exact ⟨v, h', A', _, _, e, q1, q2, H1', rfl, p3⟩

theorem Ent.frame (he : Ent A Hs A' Hs') (R : List Asn) : Ent A (Hs ++ R) A' (Hs' ++ R) := fun hp D s => by
  obtain ⟨D1, D2, rfl, s1, s2⟩ := s.sat.split
  have s0 : Own A (Hs ++ R) hp ([] ++ (D1 ++ D2)) := s
  obtain ⟨D1', p1, p2⟩ := he hp D1 (s0.sub s1)
  obtain ⟨q1, q2⟩ := s0.part (H1 := Hs' ++ R) p2 p1 (fun hd => by
    have := p1.sat.append (s2.loc fun d hm => hd d (by simpa using hm))
    simpa using this)
  exact ⟨_, q1, q2⟩
theorem Ent.frameL (R : List Asn) (he : Ent A Hs A' Hs') : Ent A (R ++ Hs) A' (R ++ Hs') :=
  (Ent.perm List.perm_append_comm).trans ((he.frame R).trans (Ent.perm List.perm_append_comm))

theorem WD.ent (he : Ent A Hs A' Hs') (h : WD F l ids L hist rs A' Hs' Qd) : WD F l ids L hist rs A Hs Qd := .mk fun fr hp D hs p1 p2 p3 p4 => by
  obtain ⟨D1, s1, m1⟩ := he hp D p2
  obtain ⟨fr', h', hs', rs', L', A2, Hs2, D', e, t1, t2, t3, t4, t5, t6⟩ := h.run fr hp D1 hs p1 s1 p3 p4
  exact ⟨fr', h', hs', rs', L', A2, Hs2, D', e, t1, t2, t3, t4, m1.trans t5, t6⟩
theorem OpOk.ent {o : O} {K : AV → Per → List Asn → Prop} (he : Ent A Hs A' Hs') (h : OpOk F o L A' Hs' K) : OpOk F o L A Hs K := .mk fun fr hp D p1 p2 => by
  obtain ⟨D1, s1, m1⟩ := he hp D p2
  obtain ⟨v, h', A2, Hs2, D', e, t1, t2, t3⟩ := h.run fr hp D1 p1 s1
  exact ⟨v, h', A2, Hs2, D', e, t1, m1.trans t2, t3⟩

/-- What memory tells, where one thing lies. -/
theorem WP.tell {P : Asn} {φ : Prop} (i : Nat) (hi : Hs[i]? = some P) (hφ : ∀ D h, P.p D h → φ) (h : φ → WP F s L A Hs Q) : WP F s L A Hs Q := .mk fun fr hp D p1 p2 => by
  obtain ⟨DL, D1, DR, rfl, r1, _, _⟩ := p2.sat.at hi
  exact (h (hφ _ _ r1)).run fr hp _ p1 p2
theorem Does.tell {f : FuncId} {args : List AV} {Qf : AV → Per → List Asn → Prop} {P : Asn} {φ : Prop} (i : Nat) (hi : Hs[i]? = some P) (hφ : ∀ D h, P.p D h → φ) (h : φ → Does F f args A Hs Qf) : Does F f args A Hs Qf := fun hp D p2 => by
  obtain ⟨DL, D1, DR, rfl, r1, _, _⟩ := p2.sat.at hi
  exact h (hφ _ _ r1) hp _ p2
theorem WD.tell {P : Asn} {φ : Prop} (i : Nat) (hi : Hs[i]? = some P) (hφ : ∀ D h, P.p D h → φ) (h : φ → WD F l ids L hist rs A Hs Qd) : WD F l ids L hist rs A Hs Qd := .mk fun fr hp D hs p1 p2 p3 p4 => by
  obtain ⟨DL, D1, DR, rfl, r1, _, _⟩ := p2.sat.at hi
  exact (h (hφ _ _ r1)).run fr hp _ hs p1 p2 p3 p4
/-- The rest is walked from what holds here. -/
def midM (M : Env → Per → List Asn → Prop) (Q : Post) : Post
  | .normal, L, A, Hs => M L A Hs
  | .exit i, L, A, Hs => Q (.exit i) L A Hs
  | .ret, L, A, Hs => Q .ret L A Hs
structure midQ (M : Env → Per → List Asn → Prop) (Q : Post) (x : X) (L : Env) (A : Per) (Hs : List Asn) : Prop where
  out : midM M Q x L A Hs
theorem midQ_n {M : Env → Per → List Asn → Prop} (h : M L A Hs) : midQ M Q .normal L A Hs := ⟨h⟩
theorem midQ_e {M : Env → Per → List Asn → Prop} {i : Nat} (h : Q (.exit i) L A Hs) : midQ M Q (.exit i) L A Hs := ⟨h⟩
theorem midQ_r {M : Env → Per → List Asn → Prop} (h : Q .ret L A Hs) : midQ M Q .ret L A Hs := ⟨h⟩
theorem WP.mid {a b : S} (M : Env → Per → List Asn → Prop) (h1 : WP F a L A Hs (midQ M Q)) (h2 : ∀ L A Hs, M L A Hs → WP F b L A Hs Q) : WP F a L A Hs (seqQ F b Q) :=
  h1.mono fun x L' A' Hs' hq => by
    cases x with
    | normal => exact ⟨h2 _ _ _ hq.out⟩
    | exit i => exact ⟨hq.out⟩
    | ret => exact ⟨hq.out⟩

theorem WP.midB {a b : S} {id : Nat} (M : Env → Per → List Asn → Prop) (h1 : WP F a L A Hs (blockQ id (midQ M Q))) (h2 : ∀ L A Hs, M L A Hs → WP F b L A Hs Q) : WP F a L A Hs (blockQ id (seqQ F b Q)) :=
  h1.mono fun x L' A' Hs' hq => by
    have conv : ∀ y, midQ M Q y L' A' Hs' → seqQ F b Q y L' A' Hs' := fun y hy => by
      cases y with
      | normal => exact ⟨h2 _ _ _ hy.out⟩
      | exit i => exact ⟨hy.out⟩
      | ret => exact ⟨hy.out⟩
    have hq := hq.out
    cases x with
    | normal => exact ⟨conv _ hq⟩
    | exit i =>
      refine ⟨?_⟩
      simp only [blockM] at hq ⊢
      split at hq
      · rename_i h; rw [if_pos h]; exact conv _ hq
      · rename_i h; rw [if_neg h]; exact conv _ hq
    | ret => exact ⟨conv _ hq⟩

/-! ### A slice cut off -/
theorem sliceA_hi {p : Option (Nat × Nat)} {cap : Cap} {e n k : Nat} (hp : p = none ∨ ∃ b, p = some (b, 0)) (hc : (∃ c, cap = .known c ∧ n ≤ c) ∨ (cap = .more e ∧ p ≠ none)) (hk : k ≤ n) : sliceA (.slice e) (.slice p n cap) none (some (k : Int)) none = some (.slice p k cap) := by
  rcases hc with ⟨c, rfl, hc⟩ | ⟨rfl, hne⟩
  · simp only [sliceA, bounds_hi]
    rw [if_pos ⟨by omega, by omega⟩]
    rcases hp with rfl | ⟨b, rfl⟩ <;> simp
  · rcases hp with rfl | ⟨b, rfl⟩
    · exact absurd rfl hne
    · simp only [sliceA, if_true, bounds_hi]
      rw [if_pos ⟨by omega, by omega⟩]
      simp
theorem sl_take {p : Option (Nat × Nat)} {cap : Cap} {e n k : Nat} {cs : List AV} (hk : k ≤ n) (D : List Nat) (h : Hp) (hp : (sl p cap e n cs).p D h) : (sl p cap e k (cs.take (k * e))).p D h := by
  rcases hp with ⟨e1, e2, e3, e4, e5⟩ | ⟨b, e1, rfl, h1, h2, rest, kind, h3, h4⟩
  · exact .inl ⟨e1, e2, by omega, by rw [e4]; simp, e5⟩
  · have hle : k * e ≤ n * e := Nat.mul_le_mul_right _ hk
    refine .inr ⟨b, e1, rfl, by simp; omega, ?_, cs.drop (k * e) ++ rest, kind, by rw [← List.append_assoc, List.take_append_drop]; exact h3, ?_⟩
    · refine List.all_eq_true.2 fun x hx => List.all_eq_true.1 h2 x (List.mem_of_mem_take hx)
    · rcases h4 with ⟨c, q1, q2, q3, q4⟩ | q
      · refine .inl ⟨c, q1, q2, ?_, q4⟩
        rw [q3, List.length_append, List.length_take, List.length_drop]
        omega
      · exact .inr q
theorem sl_form {p : Option (Nat × Nat)} {cap : Cap} {e n : Nat} {cs : List AV} (he : 0 < e) (D : List Nat) (h : Hp) (hp : (sl p cap e n cs).p D h) : (p = none ∨ ∃ b, p = some (b, 0)) ∧ ((∃ c, cap = .known c ∧ n ≤ c) ∨ (cap = .more e ∧ p ≠ none)) := by
  rcases hp with ⟨e1, e2, e3, e4, e5⟩ | ⟨b, e1, e0, h1, h2, rest, kind, h3, h4⟩
  · exact ⟨.inl e1, .inl ⟨0, e2, by omega⟩⟩
  · refine ⟨.inr ⟨b, e1⟩, ?_⟩
    rcases h4 with ⟨c, q1, q2, q3, q4⟩ | ⟨q1, q2⟩
    · refine .inl ⟨c, q1, ?_⟩
      rcases Nat.lt_or_ge c n with hh | hh
      · have := Nat.mul_lt_mul_of_pos_right hh he; omega
      · exact hh
    · exact .inr ⟨q1, by rw [e1]; simp⟩
/-- 'l[:k]': what lies behind is forgotten. -/
theorem WP.reslice {x y : Opd} {p : Option (Nat × Nat)} {cap : Cap} {e n k d : Nat} {cs : List AV} {kk : IntKind} {z : Int} {ops : List SOp} (i : Nat) (h1 : opdE L x = some (.slice p n cap)) (hi : Hs[i]? = some (sl p cap e n cs)) (h2 : opdE L y = some (.int kk z)) (hz : z = (k : Int)) (hk : k ≤ n) (he : 0 < e)
    (h : WP F (.reg ops) ((d, .slice p k cap) :: L) A (Hs.set i (sl p cap e k (cs.take (k * e)))) Q) : WP F (.reg (⟨some d, none, .slice (.slice e) x none (some y) none⟩ :: ops)) L A Hs Q := by
  subst hz
  refine WP.tell i hi (fun D h hp => sl_form he D h hp) fun ⟨f1, f2⟩ => ?_
  refine WP.opd (OpOk.val (Pv.slice (i0 := some (.int kk k)) h1 rfl (by simp only [optOpdE, h2]) rfl rfl rfl rfl (sliceA_hi f1 f2 hk)) ?_)
  exact WP.ent (Ent.at i hi (sl_take hk)) h
theorem slb_len {b : Nat} {cap : Cap} {e n : Nat} {cs : List AV} (D : List Nat) (h : Hp) (hp : (slb b cap e n cs).p D h) : cs.length = n * e := hp.2.1
theorem sl_len {p : Option (Nat × Nat)} {cap : Cap} {e n : Nat} {cs : List AV} (D : List Nat) (h : Hp) (hp : (sl p cap e n cs).p D h) : cs.length = n * e := by
  rcases hp with ⟨_, _, e0, e1, _⟩ | ⟨b, e1, e2⟩
  · rw [e0, e1]; simp
  · exact e2.2.1
theorem slb_sl' {b : Nat} {cap : Cap} {e n : Nat} {cs : List AV} (D : List Nat) (h : Hp) (hp : (slb b cap e n cs).p D h) : (sl (some (b, 0)) cap e n cs).p D h := .inr ⟨b, rfl, hp⟩
end Go.Lite.Sep
