/-
  SEP, part a: what lies where, as a list of things that are owned apart from each other; the rules by which a text is walked. Own work of this session.
-/
import Derived.Test.YtchffjnmkpedkaaPb
set_option linter.unusedSectionVars false
set_option linter.unusedSimpArgs false
set_option linter.unusedVariables false
namespace Go.Lite.Sep
set_option linter.unusedSectionVars false
set_option linter.unusedSimpArgs false
set_option linter.unusedVariables false
open Go.Lite

/-! ### Frames, as far as they are known -/
abbrev Env := List (Nat × AV)
def getE : Env → Nat → Option AV
  | [], _ => none
  | (k, v) :: l, t => cond (Nat.beq k t) (some v) (getE l t)
def Has (fr : Fr) (L : Env) : Prop := ∀ t v, getE L t = some v → fr.get t = some v
def putE (L : Env) : Option Nat → AV → Env
  | some d, v => (d, v) :: L
  | none, _ => L
def opdE (L : Env) : Opd → Option AV
  | .t n => getE L n
  | .c v => some v
  | .f g => some (.func g [] [])
def opdsE (L : Env) : List Opd → Option (List AV)
  | [] => some []
  | x :: l => match opdE L x, opdsE L l with
    | some v, some vs => some (v :: vs)
    | _, _ => none
def optOpdE (L : Env) : Option Opd → Option (Option AV)
  | none => some none
  | some x => match opdE L x with
    | some v => some (some v)
    | none => none
def partsE (L : Env) : List (Nat × Nat × Opd) → Option (List (Nat × Nat × AV))
  | [] => some []
  | (o, s, x) :: l => match opdE L x, partsE L l with
    | some v, some vs => some ((o, s, v) :: vs)
    | _, _ => none
def argsE : Nat → List AV → Env
  | _, [] => []
  | i, v :: l => (i, v) :: argsE (i + 1) l

theorem beq_of (k t : Nat) : Nat.beq k t = true ↔ k = t := ⟨Nat.eq_of_beq_eq_true, fun e => by subst e; exact Nat.beq_refl k⟩

theorem Has.cons {fr : Fr} {L : Env} (h : Has fr L) (d : Nat) (v : AV) : Has (fr.set d (some v)) ((d, v) :: L) := by
  intro t u hu
  rw [T.get_set]
  simp only [getE] at hu
  cases hb : Nat.beq d t with
  | true =>
    rw [hb, cond_true] at hu
    rw [if_pos ((beq_of d t).1 hb).symm]; exact hu
  | false =>
    rw [hb, cond_false] at hu
    rw [if_neg (fun e => by rw [e, Nat.beq_refl] at hb; cases hb)]
    exact h t u hu
theorem Has.put {fr : Fr} {L : Env} (h : Has fr L) (dst : Option Nat) (v : AV) : Has (putO fr dst v) (putE L dst v) := by
  cases dst with
  | none => exact h
  | some d => exact h.cons d v
theorem Has.know {fr : Fr} {L : Env} (h : Has fr L) {t : Nat} {v : AV} (ht : fr.get t = some v) : Has fr ((t, v) :: L) := by
  intro k u hu
  simp only [getE] at hu
  cases hb : Nat.beq t k with
  | true => rw [hb, cond_true] at hu; cases hu; rw [← (beq_of t k).1 hb]; exact ht
  | false => rw [hb, cond_false] at hu; exact h k u hu
theorem Has.args : ∀ (l : List AV) (i : Nat), Has (frameOf i l) (argsE i l)
  | [], _ => fun t v h => by simp [argsE, getE] at h
  | v :: l, i => by
    simp only [frameOf, argsE]
    exact (Has.args l (i + 1)).cons i v

theorem opd_of {fr : Fr} {L : Env} (h : Has fr L) {x : Opd} {v : AV} (e : opdE L x = some v) : opd fr x = some v := by
  cases x with
  | t n => exact h n v e
  | c u => exact e
  | f g => exact e
theorem opds_of {fr : Fr} {L : Env} (h : Has fr L) : ∀ {l : List Opd} {vs : List AV}, opdsE L l = some vs → opds fr l = some vs
  | [], vs, e => e
  | x :: l, vs, e => by
    simp only [opdsE] at e
    split at e
    · rename_i v ws e1 e2
      simp only [opds, opd_of h e1, opds_of h e2]; exact e
    · cases e
theorem optOpd_of {fr : Fr} {L : Env} (h : Has fr L) {x : Option Opd} {v : Option AV} (e : optOpdE L x = some v) : optOpd fr x = some v := by
  cases x with
  | none => exact e
  | some x =>
    simp only [optOpdE] at e
    split at e
    · rename_i u e1
      simp only [optOpd, opd_of h e1]; exact e
    · cases e
theorem parts_of {fr : Fr} {L : Env} (h : Has fr L) : ∀ {l : List (Nat × Nat × Opd)} {vs : List (Nat × Nat × AV)}, partsE L l = some vs → partsA fr l = some vs
  | [], vs, e => e
  | (o, s, x) :: l, vs, e => by
    simp only [partsE] at e
    split at e
    · rename_i v ws e1 e2
      simp only [partsA, opd_of h e1, parts_of h e2]; exact e
    · cases e

/-- Less is known. -/
def LeE (L0 L : Env) : Prop := ∀ t v, getE L0 t = some v → getE L t = some v
theorem LeE.nil (L : Env) : LeE [] L := fun t v h => by simp [getE] at h
theorem LeE.refl (L : Env) : LeE L L := fun t v h => h
theorem LeE.cons {L0 L : Env} {t : Nat} {v : AV} (h : getE L t = some v) (r : LeE L0 L) : LeE ((t, v) :: L0) L := by
  intro k u hu
  simp only [getE] at hu
  cases hb : Nat.beq t k with
  | true => rw [hb, cond_true] at hu; cases hu; rw [← (beq_of t k).1 hb]; exact h
  | false => rw [hb, cond_false] at hu; exact r k u hu
theorem LeE.cons2 {L0 L : Env} {t : Nat} {v u : AV} (h : getE L t = some u) (e : u = v) (r : LeE L0 L) : LeE ((t, v) :: L0) L := LeE.cons (by rw [h, e]) r
theorem Has.le {fr : Fr} {L0 L : Env} (h : Has fr L) (r : LeE L0 L) : Has fr L0 := fun t v e => h t v (r t v e)

/-! ### What lies where -/
/-- A slice of so many elements of so many cells, in a block of its own. -/
def slbP (b : Nat) (cap : Cap) (e n : Nat) (cs : List AV) (D : List Nat) (h : Hp) : Prop :=
  D = [b] ∧ cs.length = n * e ∧ cs.all AV.one = true ∧ ∃ rest kind, h.get b = some ⟨cs ++ rest, kind⟩ ∧ ((∃ c, cap = .known c ∧ kind = .own ∧ c * e = cs.length + rest.length ∧ 0 < c) ∨ (cap = .more e ∧ kind = .grown e))
/-- Something that is said of some blocks: a block; a slice that may grow; one that may be nil; whatever else hangs on its blocks alone. -/
inductive Asn where
  | pts (b : Nat) (k : Blk)
  | slb (b : Nat) (cap : Cap) (e n : Nat) (cs : List AV)
  | sl (p : Option (Nat × Nat)) (cap : Cap) (e n : Nat) (cs : List AV)
  | ext (q : List Nat → Hp → Prop) (loc : ∀ {D : List Nat} {h h' : Hp}, q D h → (∀ d ∈ D, h'.get d = h.get d) → q D h')
open Asn (pts slb sl)
def Asn.p : Asn → List Nat → Hp → Prop
  | .pts b k, D, h => D = [b] ∧ h.get b = some k
  | .slb b cap e n cs, D, h => slbP b cap e n cs D h
  | .sl p cap e n cs, D, h => (p = none ∧ cap = .known 0 ∧ n = 0 ∧ cs = [] ∧ D = []) ∨ ∃ b, p = some (b, 0) ∧ slbP b cap e n cs D h
  | .ext q _, D, h => q D h
theorem slbP.loc {b : Nat} {cap : Cap} {e n : Nat} {cs : List AV} {D : List Nat} {h h' : Hp} (hp : slbP b cap e n cs D h) (hd : ∀ d ∈ D, h'.get d = h.get d) : slbP b cap e n cs D h' := by
  obtain ⟨h1, h2, h3, rest, kind, h4, h5⟩ := hp
  exact ⟨h1, h2, h3, rest, kind, by rw [hd _ (by rw [h1]; simp)]; exact h4, h5⟩
theorem Asn.loc : ∀ (P : Asn) {D : List Nat} {h h' : Hp}, P.p D h → (∀ d ∈ D, h'.get d = h.get d) → P.p D h'
  | .pts b k, D, h, h', hp, hd => ⟨hp.1, by rw [hd _ (by rw [hp.1]; simp)]; exact hp.2⟩
  | .slb _ _ _ _ _, _, _, _, hp, hd => slbP.loc hp hd
  | .sl _ _ _ _ _, _, _, _, hp, hd => hp.imp id fun ⟨b, h1, h2⟩ => ⟨b, h1, h2.loc hd⟩
  | .ext _ l, _, _, _, hp, hd => l hp hd

inductive Sat (h : Hp) : List Asn → List Nat → Prop
  | nil : Sat h [] []
  | cons {P : Asn} {Hs : List Asn} {D1 D2 : List Nat} : P.p D1 h → Sat h Hs D2 → Sat h (P :: Hs) (D1 ++ D2)

theorem Sat.loc {h h' : Hp} {Hs : List Asn} {D : List Nat} (s : Sat h Hs D) : (∀ d ∈ D, h'.get d = h.get d) → Sat h' Hs D := by
  induction s with
  | nil => intro _; exact .nil
  | cons hp _ ih =>
    intro hd
    exact .cons (Asn.loc _ hp fun d hm => hd d (List.mem_append_left _ hm)) (ih fun d hm => hd d (List.mem_append_right _ hm))

theorem Sat.append {h : Hp} {H1 H2 : List Asn} {D1 D2 : List Nat} (a : Sat h H1 D1) (b : Sat h H2 D2) : Sat h (H1 ++ H2) (D1 ++ D2) := by
  induction a with
  | nil => exact b
  | cons hp _ ih => rw [List.append_assoc]; exact .cons hp ih

theorem Sat.split {h : Hp} : ∀ {H1 H2 : List Asn} {D : List Nat}, Sat h (H1 ++ H2) D → ∃ D1 D2, D = D1 ++ D2 ∧ Sat h H1 D1 ∧ Sat h H2 D2
  | [], H2, D, s => ⟨[], D, rfl, .nil, s⟩
  | P :: H1, H2, _, .cons (D1 := E1) hp s => by
    obtain ⟨D1, D2, rfl, s1, s2⟩ := Sat.split s
    exact ⟨E1 ++ D1, D2, by rw [List.append_assoc], .cons hp s1, s2⟩

/-- One of them, and the others. -/
theorem Sat.at {h : Hp} : ∀ {Hs : List Asn} {D : List Nat} {i : Nat} {P : Asn}, Sat h Hs D → Hs[i]? = some P →
    ∃ DL D1 DR, D = DL ++ (D1 ++ DR) ∧ P.p D1 h ∧ Sat h (Hs.eraseIdx i) (DL ++ DR) ∧ (∀ {h' : Hp} {D1' : List Nat} {P' : Asn}, P'.p D1' h' → (∀ d ∈ DL ++ DR, h'.get d = h.get d) → Sat h' (Hs.set i P') (DL ++ (D1' ++ DR)))
  | [], _, i, P, _, e => by simp at e
  | Q :: Hs, _, 0, P, .cons (D1 := E1) (D2 := E2) hp s, e => by
    simp at e; subst e
    refine ⟨[], E1, E2, rfl, hp, s, fun {h' D1' P'} hp' hd => ?_⟩
    show Sat h' (P' :: Hs) (D1' ++ E2)
    exact .cons hp' (s.loc fun d hm => hd d (by simpa using hm))
  | Q :: Hs, _, i + 1, P, .cons (D1 := E1) (D2 := E2) hp s, e => by
    obtain ⟨DL, D1, DR, rfl, p1, p2, p3⟩ := Sat.at s (i := i) (by simpa using e)
    refine ⟨E1 ++ DL, D1, DR, by simp, p1, ?_, fun hp' hd => ?_⟩
    · rw [List.eraseIdx_cons_succ, List.append_assoc]; exact .cons hp p2
    · rw [List.set_cons_succ, List.append_assoc]
      exact .cons (Asn.loc _ hp fun d hm => hd d (by simp [hm])) (p3 hp' fun d hm => hd d (by
        rcases List.mem_append.1 hm with hh | hh <;> simp [hh]))

/-- What is there for good: nobody owns it. -/
abbrev Per := List (Nat × Blk)

structure Own (A : Per) (Hs : List Asn) (h : Hp) (D : List Nat) : Prop where
  sat : Sat h Hs D
  nd : D.Nodup
  lt : ∀ d ∈ D, d < h.next
  per : ∀ p ∈ A, h.get p.1 = some p.2 ∧ p.1 ∉ D ∧ p.1 < h.next

/-- From one state to a later one. -/
structure Mv (A : Per) (D : List Nat) (h : Hp) (A' : Per) (D' : List Nat) (h' : Hp) : Prop where
  next : h.next ≤ h'.next
  kept : ∀ c, c < h.next → c ∉ D → h'.get c = h.get c
  sub : ∀ d ∈ D', d ∈ D ∨ h.next ≤ d
  per : ∀ p ∈ A, p ∈ A'
  new : ∀ p ∈ A', p ∈ A ∨ p.1 ∈ D ∨ h.next ≤ p.1

theorem Mv.refl (A : Per) (D : List Nat) (h : Hp) : Mv A D h A D h := ⟨Nat.le_refl _, fun _ _ _ => rfl, fun d hd => .inl hd, fun _ hp => hp, fun _ hp => .inl hp⟩
theorem Mv.trans {A A1 A2 : Per} {D D1 D2 : List Nat} {h h1 h2 : Hp} (a : Mv A D h A1 D1 h1) (b : Mv A1 D1 h1 A2 D2 h2) : Mv A D h A2 D2 h2 := by
  refine ⟨Nat.le_trans a.next b.next, fun c hc hd => ?_, fun d hd => ?_, fun p hp => b.per p (a.per p hp), fun p hp => ?_⟩
  · rw [b.kept c (Nat.lt_of_lt_of_le hc a.next) (fun hh => by rcases a.sub c hh with e | e; exact hd e; omega)]
    exact a.kept c hc hd
  · rcases b.sub d hd with e | e
    · exact a.sub d e
    · have := a.next; exact .inr (by omega)
  · rcases b.new p hp with e | e | e
    · exact a.new p e
    · exact .inr (a.sub _ e)
    · have := a.next; exact .inr (.inr (by omega))

theorem nodup_mid {DL D1 DR : List Nat} : (DL ++ (D1 ++ DR)).Nodup ↔ D1.Nodup ∧ (DL ++ DR).Nodup ∧ ∀ d ∈ D1, d ∉ DL ++ DR := by
  have h1 : (DL ++ (D1 ++ DR)).Perm (D1 ++ (DL ++ DR)) := List.perm_append_comm_assoc _ _ _
  rw [h1.nodup_iff, List.nodup_append]
  constructor
  · rintro ⟨a, b, c⟩
    exact ⟨a, b, fun d hd he => c d hd d he rfl⟩
  · rintro ⟨a, b, c⟩
    exact ⟨a, b, fun d hd e he hde => c d hd (hde ▸ he)⟩

theorem mem_mid {DL D1 DR : List Nat} {d : Nat} : d ∈ DL ++ (D1 ++ DR) ↔ d ∈ D1 ∨ d ∈ DL ++ DR := by
  simp only [List.mem_append]
  constructor
  · rintro (h | h | h)
    · exact .inr (.inl h)
    · exact .inl h
    · exact .inr (.inr h)
  · rintro (h | h | h)
    · exact .inr (.inl h)
    · exact .inl h
    · exact .inr (.inr h)

/-- One part of a state moves; the others stay. -/
theorem Own.part {A A' : Per} {Hs H1 H1' : List Asn} {h h' : Hp} {DL D1 DR D1' : List Nat} (s : Own A Hs h (DL ++ (D1 ++ DR))) (m : Mv A D1 h A' D1' h') (s' : Own A' H1' h' D1') (hs : (∀ d ∈ DL ++ DR, h'.get d = h.get d) → Sat h' H1 (DL ++ (D1' ++ DR))) :
    Own A' H1 h' (DL ++ (D1' ++ DR)) ∧ Mv A (DL ++ (D1 ++ DR)) h A' (DL ++ (D1' ++ DR)) h' := by
  obtain ⟨n1, n2, n3⟩ := nodup_mid.1 s.nd
  have hlt : ∀ d ∈ DL ++ DR, d < h.next := fun d hd => s.lt d (mem_mid.2 (.inr hd))
  refine ⟨⟨hs fun d hd => m.kept d (hlt d hd) fun hh => n3 d hh hd, nodup_mid.2 ⟨s'.nd, n2, fun d hd hh => ?_⟩, fun d hd => ?_, fun p hp => ?_⟩, ⟨m.next, fun c hc hd => m.kept c hc fun hh => hd (mem_mid.2 (.inl hh)), fun d hd => ?_, m.per, fun p hp => ?_⟩⟩
  · rcases m.sub d hd with e | e
    · exact n3 d e hh
    · have := hlt d hh; omega
  · rcases mem_mid.1 hd with e | e
    · exact s'.lt d e
    · exact Nat.lt_of_lt_of_le (hlt d e) m.next
  · obtain ⟨p1, p2, p3⟩ := s'.per p hp
    refine ⟨p1, fun hh => ?_, p3⟩
    rcases mem_mid.1 hh with e | e
    · exact p2 e
    · rcases m.new p hp with q | q | q
      · exact (s.per p q).2.1 (mem_mid.2 (.inr e))
      · exact n3 _ q e
      · have := hlt _ e; omega
  · rcases mem_mid.1 hd with e | e
    · exact (m.sub d e).imp (fun q => mem_mid.2 (.inl q)) id
    · exact .inl (mem_mid.2 (.inr e))
  · exact (m.new p hp).imp id fun q => q.imp (fun q => mem_mid.2 (.inl q)) id

/-- Part of what is owned, alone. -/
theorem Own.sub {A : Per} {Hs H1 : List Asn} {h : Hp} {DL D1 DR : List Nat} (s : Own A Hs h (DL ++ (D1 ++ DR))) (h1 : Sat h H1 D1) : Own A H1 h D1 :=
  ⟨h1, (nodup_mid.1 s.nd).1, fun d hd => s.lt d (mem_mid.2 (.inl hd)), fun p hp => ⟨(s.per p hp).1, fun hh => (s.per p hp).2.1 (mem_mid.2 (.inl hh)), (s.per p hp).2.2⟩⟩

/-- What is had can be seen as this, too (some may be let go, some may be for good from now on). -/
def Ent (A : Per) (Hs : List Asn) (A' : Per) (Hs' : List Asn) : Prop :=
  ∀ h D, Own A Hs h D → ∃ D', Own A' Hs' h D' ∧ Mv A D h A' D' h

theorem Ent.refl (A : Per) (Hs : List Asn) : Ent A Hs A Hs := fun h D s => ⟨D, s, Mv.refl _ _ _⟩
theorem Ent.trans {A A1 A2 : Per} {H H1 H2 : List Asn} (a : Ent A H A1 H1) (b : Ent A1 H1 A2 H2) : Ent A H A2 H2 := fun h D s => by
  obtain ⟨D1, s1, m1⟩ := a h D s
  obtain ⟨D2, s2, m2⟩ := b h D1 s1
  exact ⟨D2, s2, m1.trans m2⟩
theorem Ent.take {A : Per} {Hs : List Asn} (k : Nat) : Ent A Hs A (Hs.take k) := fun h D s => by
  have := s.sat
  rw [← List.take_append_drop k Hs] at this
  obtain ⟨D1, D2, rfl, s1, _⟩ := this.split
  have hn := List.nodup_append.1 s.nd
  exact ⟨D1, ⟨s1, hn.1, fun d hd => s.lt d (List.mem_append_left _ hd), fun p hp => ⟨(s.per p hp).1, fun hh => (s.per p hp).2.1 (List.mem_append_left _ hh), (s.per p hp).2.2⟩⟩,
    Nat.le_refl _, fun _ _ _ => rfl, fun d hd => .inl (List.mem_append_left _ hd), fun _ hp => hp, fun _ hp => .inl hp⟩
theorem Ent.erase {A : Per} {Hs : List Asn} (i : Nat) : Ent A Hs A (Hs.eraseIdx i) := fun h D s => by
  cases hq : Hs[i]? with
  | none => rw [List.eraseIdx_of_length_le (List.getElem?_eq_none_iff.1 hq)]; exact ⟨D, s, Mv.refl _ _ _⟩
  | some P =>
    obtain ⟨DL, D1, DR, rfl, p1, p2, _⟩ := s.sat.at hq
    obtain ⟨n1, n2, n3⟩ := nodup_mid.1 s.nd
    exact ⟨DL ++ DR, ⟨p2, n2, fun d hd => s.lt d (mem_mid.2 (.inr hd)), fun p hp => ⟨(s.per p hp).1, fun hh => (s.per p hp).2.1 (mem_mid.2 (.inr hh)), (s.per p hp).2.2⟩⟩,
      Nat.le_refl _, fun _ _ _ => rfl, fun d hd => .inl (mem_mid.2 (.inr hd)), fun _ hp => hp, fun _ hp => .inl hp⟩
/-- One of them, seen otherwise. -/
theorem Ent.at {A : Per} {Hs : List Asn} {P P' : Asn} (i : Nat) (hi : Hs[i]? = some P) (hp : ∀ D h, P.p D h → P'.p D h) : Ent A Hs A (Hs.set i P') := fun h D s => by
  obtain ⟨DL, D1, DR, rfl, p1, _, p3⟩ := s.sat.at hi
  exact ⟨DL ++ (D1 ++ DR), ⟨p3 (hp _ _ p1) fun _ _ => rfl, s.nd, s.lt, s.per⟩, Mv.refl _ _ _⟩

/-- A block is for good from now on. -/
theorem Ent.keep {A : Per} {Hs : List Asn} {b : Nat} {k : Blk} (i : Nat) (hi : Hs[i]? = some (pts b k)) : Ent A Hs ((b, k) :: A) (Hs.eraseIdx i) := fun h D s => by
  obtain ⟨DL, D1, DR, rfl, ⟨rfl, p1⟩, p2, _⟩ := s.sat.at hi
  obtain ⟨n1, n2, n3⟩ := nodup_mid.1 s.nd
  have hb : b ∈ DL ++ ([b] ++ DR) := mem_mid.2 (.inl (by simp))
  refine ⟨DL ++ DR, ⟨p2, n2, fun d hd => s.lt d (mem_mid.2 (.inr hd)), fun p hp => ?_⟩, Nat.le_refl _, fun _ _ _ => rfl, fun d hd => .inl (mem_mid.2 (.inr hd)), fun _ hp => List.mem_cons_of_mem _ hp, fun p hp => ?_⟩
  · rcases List.mem_cons.1 hp with rfl | hp
    · exact ⟨p1, n3 b (by simp), s.lt b hb⟩
    · exact ⟨(s.per p hp).1, fun hh => (s.per p hp).2.1 (mem_mid.2 (.inr hh)), (s.per p hp).2.2⟩
  · rcases List.mem_cons.1 hp with rfl | hp
    · exact .inr (.inl hb)
    · exact .inl hp

/-- What is for good may be forgotten. -/
theorem Ent.forget {A A' : Per} {Hs : List Asn} (h : A' = A) : Ent A Hs A' Hs := by subst h; exact Ent.refl _ _

/-! ### Runs -/
variable {F : FuncId → Option Def}
def Ev (F : FuncId → Option Def) (f : FuncId) (args : List AV) (h : Hp) (v : AV) (h' : Hp) : Prop := ∃ N, ∀ n, N ≤ n → evalFn F n f args h = some (v, h')
def EvS (F : FuncId → Option Def) (s : S) (fr : Fr) (h : Hp) (x : X) (fr' : Fr) (h' : Hp) : Prop := ∃ N, ∀ n, N ≤ n → evalS (evalT F n) n s fr h = some (x, fr', h')

abbrev Post := X → Env → Per → List Asn → Prop
/-- From what is known and had, the text runs to its end, and then this holds. -/
structure WP (F : FuncId → Option Def) (s : S) (L : Env) (A : Per) (Hs : List Asn) (Q : Post) : Prop where
  run : ∀ fr h D, Has fr L → Own A Hs h D → ∃ x fr' h' L' A' Hs' D', EvS F s fr h x fr' h' ∧ Has fr' L' ∧ Own A' Hs' h' D' ∧ Mv A D h A' D' h' ∧ Q x L' A' Hs'
/-- A call. -/
def Does (F : FuncId → Option Def) (f : FuncId) (args : List AV) (A : Per) (Hs : List Asn) (Q : AV → Per → List Asn → Prop) : Prop :=
  ∀ h D, Own A Hs h D → ∃ v h' A' Hs' D', Ev F f args h v h' ∧ Own A' Hs' h' D' ∧ Mv A D h A' D' h' ∧ Q v A' Hs'
/-- An operation. -/
structure OpOk (F : FuncId → Option Def) (o : O) (L : Env) (A : Per) (Hs : List Asn) (K : AV → Per → List Asn → Prop) : Prop where
  run : ∀ fr h D, Has fr L → Own A Hs h D → ∃ v h' A' Hs' D', (∃ N, ∀ n, N ≤ n → evalOp (evalT F n) fr h o = some (v, h')) ∧ Own A' Hs' h' D' ∧ Mv A D h A' D' h' ∧ K v A' Hs'

section
variable {L L0 : Env} {A A' : Per} {Hs Hs' : List Asn} {Q Q' : Post} {K : AV → Per → List Asn → Prop}

theorem WP.mono {s : S} (h : WP F s L A Hs Q) (hq : ∀ x L A Hs, Q x L A Hs → Q' x L A Hs) : WP F s L A Hs Q' := .mk fun fr hp D h1 h2 => by
  obtain ⟨x, fr', h', L', A', Hs', D', e, a, b, c, d⟩ := h.run fr hp D h1 h2
  exact ⟨x, fr', h', L', A', Hs', D', e, a, b, c, hq _ _ _ _ d⟩
theorem WP.weak {s : S} (hl : LeE L0 L) (h : WP F s L0 A Hs Q) : WP F s L A Hs Q := .mk fun fr hp D h1 h2 => h.run fr hp D (h1.le hl) h2
theorem WP.ent {s : S} (he : Ent A Hs A' Hs') (h : WP F s L A' Hs' Q) : WP F s L A Hs Q := .mk fun fr hp D h1 h2 => by
  obtain ⟨D1, s1, m1⟩ := he hp D h2
  obtain ⟨x, fr', h', L', A2, Hs2, D', e, a, b, c, d⟩ := h.run fr hp D1 h1 s1
  exact ⟨x, fr', h', L', A2, Hs2, D', e, a, b, m1.trans c, d⟩

theorem WP.skip (h : Q .normal L A Hs) : WP F .skip L A Hs Q := .mk fun fr hp D h1 h2 => ⟨_, fr, hp, L, A, Hs, D, ⟨0, fun n _ => rfl⟩, h1, h2, Mv.refl _ _ _, h⟩
theorem WP.exit {i : Nat} (h : Q (.exit i) L A Hs) : WP F (.exit i) L A Hs Q := .mk fun fr hp D h1 h2 => ⟨_, fr, hp, L, A, Hs, D, ⟨0, fun n _ => rfl⟩, h1, h2, Mv.refl _ _ _, h⟩
theorem WP.ret (h : Q .ret L A Hs) : WP F .ret L A Hs Q := .mk fun fr hp D h1 h2 => ⟨_, fr, hp, L, A, Hs, D, ⟨0, fun n _ => rfl⟩, h1, h2, Mv.refl _ _ _, h⟩

/-- What is to hold behind the first of two. -/
def seqM (F : FuncId → Option Def) (b : S) (Q : Post) : Post
  | .normal, L, A, Hs => WP F b L A Hs Q
  | .exit i, L, A, Hs => Q (.exit i) L A Hs
  | .ret, L, A, Hs => Q .ret L A Hs
structure seqQ (F : FuncId → Option Def) (b : S) (Q : Post) (x : X) (L : Env) (A : Per) (Hs : List Asn) : Prop where
  out : seqM F b Q x L A Hs
theorem seqQ_n {b : S} (h : WP F b L A Hs Q) : seqQ F b Q .normal L A Hs := ⟨h⟩
theorem seqQ_e {b : S} {i : Nat} (h : Q (.exit i) L A Hs) : seqQ F b Q (.exit i) L A Hs := ⟨h⟩
theorem seqQ_r {b : S} (h : Q .ret L A Hs) : seqQ F b Q .ret L A Hs := ⟨h⟩

theorem WP.seq {a b : S} (h : WP F a L A Hs (seqQ F b Q)) : WP F (.seq a b) L A Hs Q := .mk fun fr hp D h1 h2 => by
  obtain ⟨x, fr1, h', L1, A1, Hs1, D1, ⟨N, e⟩, p1, p2, p3, p4⟩ := h.run fr hp D h1 h2
  cases x with
  | normal =>
    obtain ⟨y, fr2, h'', L2, A2, Hs2, D2, ⟨N2, e2⟩, q1, q2, q3, q4⟩ := WP.run p4.out fr1 h' D1 p1 p2
    exact ⟨y, fr2, h'', L2, A2, Hs2, D2, ⟨max N N2, fun n hn => by simp only [evalS, e n (by omega), e2 n (by omega)]⟩, q1, q2, p3.trans q3, q4⟩
  | exit i => exact ⟨_, fr1, h', L1, A1, Hs1, D1, ⟨N, fun n hn => by simp only [evalS, e n hn]⟩, p1, p2, p3, p4.out⟩
  | ret => exact ⟨_, fr1, h', L1, A1, Hs1, D1, ⟨N, fun n hn => by simp only [evalS, e n hn]⟩, p1, p2, p3, p4.out⟩

def blockM (id : Nat) (Q : Post) : Post
  | .exit i, L, A, Hs => if i = id then Q .normal L A Hs else Q (.exit i) L A Hs
  | x, L, A, Hs => Q x L A Hs
structure blockQ (id : Nat) (Q : Post) (x : X) (L : Env) (A : Per) (Hs : List Asn) : Prop where
  out : blockM id Q x L A Hs
theorem blockQ_n {id : Nat} (h : Q .normal L A Hs) : blockQ id Q .normal L A Hs := ⟨h⟩
theorem blockQ_r {id : Nat} (h : Q .ret L A Hs) : blockQ id Q .ret L A Hs := ⟨h⟩
theorem blockQ_e {id : Nat} (h : Q .normal L A Hs) : blockQ id Q (.exit id) L A Hs := ⟨by simp only [blockM, if_true]; exact h⟩
theorem blockQ_o {id i : Nat} (hi : Nat.beq i id = false) (h : Q (.exit i) L A Hs) : blockQ id Q (.exit i) L A Hs := ⟨by
  simp only [blockM]; rw [if_neg]; exact h
  rintro rfl; rw [Nat.beq_refl] at hi; cases hi⟩

theorem WP.block {id : Nat} {a : S} (h : WP F a L A Hs (blockQ id Q)) : WP F (.block id a) L A Hs Q := .mk fun fr hp D h1 h2 => by
  obtain ⟨x, fr1, h', L1, A1, Hs1, D1, ⟨N, e⟩, p1, p2, p3, p4⟩ := h.run fr hp D h1 h2
  replace p4 := p4.out
  cases x with
  | normal => exact ⟨_, fr1, h', L1, A1, Hs1, D1, ⟨N, fun n hn => by simp only [evalS, e n hn]⟩, p1, p2, p3, p4⟩
  | exit i =>
    simp only [blockM] at p4
    by_cases hi : i = id
    · rw [if_pos hi] at p4
      exact ⟨.normal, fr1, h', L1, A1, Hs1, D1, ⟨N, fun n hn => by simp only [evalS, e n hn, if_pos hi]⟩, p1, p2, p3, p4⟩
    · rw [if_neg hi] at p4
      exact ⟨.exit i, fr1, h', L1, A1, Hs1, D1, ⟨N, fun n hn => by simp only [evalS, e n hn, if_neg hi]⟩, p1, p2, p3, p4⟩
  | ret => exact ⟨_, fr1, h', L1, A1, Hs1, D1, ⟨N, fun n hn => by simp only [evalS, e n hn]⟩, p1, p2, p3, p4⟩

theorem WP.cond {c : Opd} {a b : S} {t : Bool} (hc : opdE L c = some (.bool t)) (h1 : t = true → WP F a L A Hs Q) (h2 : t = false → WP F b L A Hs Q) : WP F (.cond c a b) L A Hs Q := .mk fun fr hp D p1 p2 => by
  have ho := opd_of p1 hc
  cases t with
  | true =>
    obtain ⟨x, fr1, h', L1, A1, Hs1, D1, ⟨N, e⟩, r⟩ := (h1 rfl).run fr hp D p1 p2
    exact ⟨x, fr1, h', L1, A1, Hs1, D1, ⟨N, fun n hn => by simp only [evalS, ho]; exact e n hn⟩, r⟩
  | false =>
    obtain ⟨x, fr1, h', L1, A1, Hs1, D1, ⟨N, e⟩, r⟩ := (h2 rfl).run fr hp D p1 p2
    exact ⟨x, fr1, h', L1, A1, Hs1, D1, ⟨N, fun n hn => by simp only [evalS, ho]; exact e n hn⟩, r⟩
theorem WP.cond_t {c : Opd} {a b : S} {t : Bool} (hc : opdE L c = some (.bool t)) (ht : t = true) (h1 : WP F a L A Hs Q) : WP F (.cond c a b) L A Hs Q := WP.cond hc (fun _ => h1) (fun hh => by rw [ht] at hh; cases hh)
theorem WP.cond_f {c : Opd} {a b : S} {t : Bool} (hc : opdE L c = some (.bool t)) (ht : t = false) (h1 : WP F b L A Hs Q) : WP F (.cond c a b) L A Hs Q := WP.cond hc (fun hh => by rw [ht] at hh; cases hh) (fun _ => h1)

theorem iter_s (body : Fr → Hp → Option (X × Fr × Hp)) (m : Nat) (fr : Fr) (h : Hp) :
    iter body (m + 1) fr h = match body fr h with
      | some (.normal, fr', h') => iter body m fr' h'
      | r => r := rfl
theorem evalFn_t {f : FuncId} {fn : SFn} (hf : F f = some (.text fn)) (n : Nat) (args : List AV) (h : Hp) :
    evalFn F (n + 1) f args h = match evalS (evalT F n) n fn.body (frameOf 0 args) h with
      | some (.normal, fr, h') | some (.ret, fr, h') => (resA fr h' fn.res).map fun l => (oneOrTuple l, h')
      | _ => none := by
  simp only [evalFn, evalT, hf, runDef]
  rfl

theorem iter_more {body : Fr → Hp → Option (X × Fr × Hp)} : ∀ {m m' : Nat} {fr : Fr} {h : Hp} {r : X × Fr × Hp}, iter body m fr h = some r → m ≤ m' → iter body m' fr h = some r
  | 0, _, _, _, _, e, _ => by simp [iter] at e
  | m + 1, 0, _, _, _, e, hm => by omega
  | m + 1, m' + 1, fr, h, r, e, hm => by
    rw [iter_s] at e ⊢
    split at e
    · rename_i fr' h' e1
      exact iter_more e (by omega)
    · exact e

/-- What is to hold behind a round of a loop. -/
def loopM {σ : Type} (m : σ → Nat) (E : σ → Env) (H : σ → List Asn) (I : σ → Per → Prop) (s : σ) (Q : Post) : Post
  | .normal, L, A, Hs => ∃ s', m s' < m s ∧ LeE (E s') L ∧ (∃ A', Ent A Hs A' (H s') ∧ I s' A')
  | .exit i, L, A, Hs => Q (.exit i) L A Hs
  | .ret, L, A, Hs => Q .ret L A Hs
structure loopQ {σ : Type} (m : σ → Nat) (E : σ → Env) (H : σ → List Asn) (I : σ → Per → Prop) (s : σ) (Q : Post) (x : X) (L : Env) (A : Per) (Hs : List Asn) : Prop where
  out : loopM m E H I s Q x L A Hs
theorem loopQ_n {σ : Type} {m : σ → Nat} {E : σ → Env} {H : σ → List Asn} {I : σ → Per → Prop} {s : σ} (s' : σ) (h1 : m s' < m s) (h2 : LeE (E s') L) (h3 : Ent A Hs A' (H s')) (h4 : I s' A') : loopQ m E H I s Q .normal L A Hs := ⟨s', h1, h2, A', h3, h4⟩
theorem loopQ_e {σ : Type} {m : σ → Nat} {E : σ → Env} {H : σ → List Asn} {I : σ → Per → Prop} {s : σ} {i : Nat} (h : Q (.exit i) L A Hs) : loopQ m E H I s Q (.exit i) L A Hs := ⟨h⟩
theorem loopQ_r {σ : Type} {m : σ → Nat} {E : σ → Env} {H : σ → List Asn} {I : σ → Per → Prop} {s : σ} (h : Q .ret L A Hs) : loopQ m E H I s Q .ret L A Hs := ⟨h⟩

theorem WP.loop {a : S} {σ : Type} (m : σ → Nat) (E : σ → Env) (H : σ → List Asn) (I : σ → Per → Prop) (s0 : σ) (hE : LeE (E s0) L) (hH : Ent A Hs A' (H s0)) (hI : I s0 A')
    (step : ∀ s A, I s A → WP F a (E s) A (H s) (loopQ m E H I s Q)) : WP F (.loop a) L A Hs Q := by
  have key : ∀ (k : Nat) (s : σ), m s ≤ k → ∀ A fr h D, I s A → Has fr (E s) → Own A (H s) h D → ∃ x fr' h' L' A' Hs' D', (∃ N, ∀ n, N ≤ n → ∀ j, N ≤ j → iter (evalS (evalT F n) n a) j fr h = some (x, fr', h')) ∧ Has fr' L' ∧ Own A' Hs' h' D' ∧ Mv A D h A' D' h' ∧ Q x L' A' Hs' := by
    intro k
    induction k with
    | zero =>
      intro s hs A fr h D hi h1 h2
      obtain ⟨x, fr1, h', L1, A1, Hs1, D1, ⟨N, e⟩, p1, p2, p3, p4⟩ := (step s A hi).run fr h D h1 h2
      replace p4 := p4.out
      cases x with
      | normal => obtain ⟨s', q, _⟩ := p4; omega
      | exit i => exact ⟨_, fr1, h', L1, A1, Hs1, D1, ⟨N + 1, fun n hn j hj => by obtain ⟨j', rfl⟩ : ∃ j', j = j' + 1 := ⟨j - 1, by omega⟩
                                                                                  rw [iter_s, e n (by omega)]⟩, p1, p2, p3, p4⟩
      | ret => exact ⟨_, fr1, h', L1, A1, Hs1, D1, ⟨N + 1, fun n hn j hj => by obtain ⟨j', rfl⟩ : ∃ j', j = j' + 1 := ⟨j - 1, by omega⟩
                                                                               rw [iter_s, e n (by omega)]⟩, p1, p2, p3, p4⟩
    | succ k ih =>
      intro s hs A fr h D hi h1 h2
      obtain ⟨x, fr1, h', L1, A1, Hs1, D1, ⟨N, e⟩, p1, p2, p3, p4⟩ := (step s A hi).run fr h D h1 h2
      replace p4 := p4.out
      cases x with
      | normal =>
        obtain ⟨s', q1, q2, A2, q3, q4⟩ := p4
        obtain ⟨D2, r1, r2⟩ := q3 h' D1 p2
        obtain ⟨y, fr2, h'', L2, A3, Hs2, D3, ⟨N2, e2⟩, t1, t2, t3, t4⟩ := ih s' (by omega) A2 fr1 h' D2 q4 (p1.le q2) r1
        exact ⟨y, fr2, h'', L2, A3, Hs2, D3, ⟨max N N2 + 1, fun n hn j hj => by obtain ⟨j', rfl⟩ : ∃ j', j = j' + 1 := ⟨j - 1, by omega⟩
                                                                                rw [iter_s, e n (by omega)]; exact e2 n (by omega) j' (by omega)⟩, t1, t2, (p3.trans r2).trans t3, t4⟩
      | exit i => exact ⟨_, fr1, h', L1, A1, Hs1, D1, ⟨N + 1, fun n hn j hj => by obtain ⟨j', rfl⟩ : ∃ j', j = j' + 1 := ⟨j - 1, by omega⟩
                                                                                  rw [iter_s, e n (by omega)]⟩, p1, p2, p3, p4⟩
      | ret => exact ⟨_, fr1, h', L1, A1, Hs1, D1, ⟨N + 1, fun n hn j hj => by obtain ⟨j', rfl⟩ : ∃ j', j = j' + 1 := ⟨j - 1, by omega⟩
                                                                               rw [iter_s, e n (by omega)]⟩, p1, p2, p3, p4⟩
  refine .mk fun fr h D h1 h2 => ?_
  obtain ⟨D1, r1, r2⟩ := hH h D h2
  obtain ⟨x, fr', h', L', A2, Hs2, D', ⟨N, e⟩, p1, p2, p3, p4⟩ := key (m s0) s0 (Nat.le_refl _) A' fr h D1 hI (h1.le hE) r1
  exact ⟨x, fr', h', L', A2, Hs2, D', ⟨N, fun n hn => by simp only [evalS]; exact e n hn n hn⟩, p1, p2, r2.trans p3, p4⟩

/-! ### A region -/
theorem WP.nil (h : Q .normal L A Hs) : WP F (.reg []) L A Hs Q := .mk fun fr hp D h1 h2 => ⟨_, fr, hp, L, A, Hs, D, ⟨0, fun n _ => rfl⟩, h1, h2, Mv.refl _ _ _, h⟩

theorem WP.op {dst : Option Nat} {o : O} {ops : List SOp} (h : OpOk F o L A Hs fun v A' Hs' => WP F (.reg ops) (putE L dst v) A' Hs' Q) : WP F (.reg (⟨dst, none, o⟩ :: ops)) L A Hs Q := .mk fun fr hp D h1 h2 => by
  obtain ⟨v, h', A1, Hs1, D1, ⟨N, e⟩, p1, p2, p3⟩ := h.run fr hp D h1 h2
  obtain ⟨x, fr2, h'', L2, A2, Hs2, D2, ⟨N2, e2⟩, q1, q2, q3, q4⟩ := p3.run (putO fr dst v) h' D1 (h1.put dst v) p1
  exact ⟨x, fr2, h'', L2, A2, Hs2, D2, ⟨max N N2, fun n hn => by
    have := e2 n (by omega)
    simp only [evalS, evalOps, wantedA, e n (by omega)] at this ⊢
    exact this⟩, q1, q2, p2.trans q3, q4⟩
theorem WP.opd {d : Nat} {o : O} {ops : List SOp} (h : OpOk F o L A Hs fun v A' Hs' => WP F (.reg ops) ((d, v) :: L) A' Hs' Q) : WP F (.reg (⟨some d, none, o⟩ :: ops)) L A Hs Q := WP.op h
theorem WP.opn {o : O} {ops : List SOp} (h : OpOk F o L A Hs fun v A' Hs' => WP F (.reg ops) L A' Hs' Q) : WP F (.reg (⟨none, none, o⟩ :: ops)) L A Hs Q := WP.op h
theorem WP.guard {dst : Option Nat} {t : Nat} {want b : Bool} {o : O} {ops : List SOp} (hb : getE L t = some (.bool b)) (h1 : b = want → WP F (.reg (⟨dst, none, o⟩ :: ops)) ((t, .bool want) :: L) A Hs Q) (h2 : b = (!want) → WP F (.reg ops) (putE ((t, .bool (!want)) :: L) dst .undef) A Hs Q) :
    WP F (.reg (⟨dst, some (t, want), o⟩ :: ops)) L A Hs Q := .mk fun fr hp D p1 p2 => by
  have hg := p1 t _ hb
  by_cases hw : b = want
  · subst hw
    obtain ⟨x, fr2, h'', L2, A2, Hs2, D2, ⟨N2, e2⟩, r⟩ := (h1 rfl).run fr hp D (p1.know hg) p2
    exact ⟨x, fr2, h'', L2, A2, Hs2, D2, ⟨N2, fun n hn => by
      have := e2 n hn
      simp only [evalS, evalOps, wantedA, hg, beq_self_eq_true] at this ⊢
      exact this⟩, r⟩
  · have hw' : b = !want := by cases b <;> cases want <;> simp_all
    subst hw'
    obtain ⟨x, fr2, h'', L2, A2, Hs2, D2, ⟨N2, e2⟩, r⟩ := (h2 rfl).run (putO fr dst .undef) hp D ((p1.know hg).put dst _) p2
    exact ⟨x, fr2, h'', L2, A2, Hs2, D2, ⟨N2, fun n hn => by
      have := e2 n hn
      have hbw : ((!want) == want) = false := by cases want <;> rfl
      simp only [evalS, evalOps, wantedA, hg, hbw] at this ⊢
      exact this⟩, r⟩
theorem WP.guard_y {dst : Option Nat} {t : Nat} {want : Bool} {o : O} {ops : List SOp} (hb : getE L t = some (.bool want)) (h1 : WP F (.reg (⟨dst, none, o⟩ :: ops)) L A Hs Q) : WP F (.reg (⟨dst, some (t, want), o⟩ :: ops)) L A Hs Q :=
  WP.guard hb (fun _ => WP.weak (fun k v hk => by
    simp only [getE]
    cases hq : Nat.beq t k with
    | true => rw [← (beq_of t k).1 hq, hb] at hk; exact hk
    | false => exact hk) h1) (fun hh => by cases want <;> cases hh)
theorem WP.guard_n {dst : Option Nat} {t : Nat} {want b : Bool} {o : O} {ops : List SOp} (hb : getE L t = some (.bool b)) (hw : b = !want) (h1 : WP F (.reg ops) (putE L dst .undef) A Hs Q) : WP F (.reg (⟨dst, some (t, want), o⟩ :: ops)) L A Hs Q := .mk fun fr hp D p1 p2 => by
  subst hw
  have hg := p1 t _ hb
  obtain ⟨x, fr2, h'', L2, A2, Hs2, D2, ⟨N2, e2⟩, r⟩ := h1.run (putO fr dst .undef) hp D (p1.put dst _) p2
  exact ⟨x, fr2, h'', L2, A2, Hs2, D2, ⟨N2, fun n hn => by
    have := e2 n hn
    have hbw : ((!want) == want) = false := by cases want <;> rfl
    simp only [evalS, evalOps, wantedA, hg, hbw] at this ⊢
    exact this⟩, r⟩

/-! ### Operations that leave memory alone -/
def pureE (L : Env) : O → Option AV
  | .mov x => opdE L x
  | .const v => some v
  | .pick c a b =>
    match opdE L c, opdE L a, opdE L b with
    | some (.bool t), some x, some y => some (cond t x y)
    | _, _, _ => none
  | .build zero parts =>
    match partsE L parts with
    | some l => (fillA zero l).map AV.agg
    | none => none
  | .nilCheck x =>
    match opdE L x with
    | some (.ptr (some p)) => some (.ptr (some p))
    | some (.func f a b) => some (.func f a b)
    | _ => none
  | .bin op x y =>
    match opdE L x, opdE L y with
    | some a, some b => binA op a b
    | _, _ => none
  | .eq neg k x y =>
    match opdE L x, opdE L y with
    | some a, some b => (eqA k a b).map fun v => .bool (cond neg (!v) v)
    | _, _ => none
  | .un op x =>
    match opdE L x with
    | some a => unA op a
    | none => none
  | .convInt k x =>
    match opdE L x with
    | some (.int _ n) => some (.int k (k.wrap n))
    | _ => none
  | .convId x =>
    match opdE L x with
    | some (.str s) => some (.str s)
    | _ => none
  | .slice k x lo hi mx =>
    match opdE L x, optOpdE L lo, optOpdE L hi, optOpdE L mx with
    | some v, some l, some i, some m =>
      match optInt l, optInt i, optInt m with
      | some l, some i, some m => sliceA k v l i m
      | _, _, _ => none
    | _, _, _, _ => none
  | .fieldAddr off x =>
    match opdE L x with
    | some (.ptr (some p)) => some (.ptr (some (p.1, p.2 + off)))
    | _ => none
  | .field off agg x =>
    match opdE L x with
    | some (.agg cs) => partA off agg cs
    | _ => none
  | .extract x i =>
    match opdE L x with
    | some (.tuple vs) => vs[i]?
    | _ => none
  | .len s x =>
    match opdE L x with
    | some v => lenA s v
    | none => none
  | .cap x =>
    match opdE L x with
    | some v => capA v
    | none => none
  | .makeFunc f first caps =>
    match opdsE L first, opdsE L caps with
    | some a, some b => some (.func f a b)
    | _, _ => none
  | .minmax mx x y =>
    match opdE L x, opdE L y with
    | some (.int k a), some (.int k' b) => if k = k' then some (.int k (if mx then (if b > a then b else a) else (if b < a then b else a))) else none
    | _, _ => none
  | _ => none

theorem pureE_ok {o : O} {v : AV} (e : pureE L o = some v) {fr : Fr} (hf : Has fr L) (h : Hp) : evalO fr h o = some (.val v, h) := by
  cases o with
  | mov x => simp only [pureE] at e; simp only [evalO, opd_of hf e]; rfl
  | const u => simp only [pureE] at e; cases e; rfl
  | pick c a b =>
    simp only [pureE] at e
    split at e
    · rename_i t x y e1 e2 e3
      cases e
      simp only [evalO, opd_of hf e1, opd_of hf e2, opd_of hf e3]
      cases t <;> rfl
    · cases e
  | build zero parts =>
    simp only [pureE] at e
    split at e
    · rename_i l e1
      simp only [evalO, parts_of hf e1]
      cases hq : fillA zero l with
      | none => rw [hq] at e; cases e
      | some cs => rw [hq] at e; cases e; rfl
    · cases e
  | nilCheck x =>
    simp only [pureE] at e
    split at e
    · rename_i p e1; cases e; simp only [evalO, opd_of hf e1]
    · rename_i f a b e1; cases e; simp only [evalO, opd_of hf e1]
    · cases e
  | bin op x y =>
    simp only [pureE] at e
    split at e
    · rename_i a b e1 e2; simp only [evalO, opd_of hf e1, opd_of hf e2, e]; rfl
    · cases e
  | eq neg k x y =>
    simp only [pureE] at e
    split at e
    · rename_i a b e1 e2
      simp only [evalO, opd_of hf e1, opd_of hf e2]
      cases hq : eqA k a b with
      | none => rw [hq] at e; cases e
      | some t => rw [hq] at e; cases e; cases neg <;> rfl
    · cases e
  | un op x =>
    simp only [pureE] at e
    split at e
    · rename_i a e1; simp only [evalO, opd_of hf e1, e]; rfl
    · cases e
  | convInt k x =>
    simp only [pureE] at e
    split at e
    · rename_i q n e1; cases e; simp only [evalO, opd_of hf e1]
    · cases e
  | convId x =>
    simp only [pureE] at e
    split at e
    · rename_i s e1; cases e; simp only [evalO, opd_of hf e1]
    · cases e
  | slice k x lo hi mx =>
    simp only [pureE] at e
    split at e
    · rename_i v l i m e1 e2 e3 e4
      split at e
      · rename_i l' i' m' f1 f2 f3
        simp only [evalO, opd_of hf e1, optOpd_of hf e2, optOpd_of hf e3, optOpd_of hf e4, f1, f2, f3, e]; rfl
      · cases e
    · cases e
  | fieldAddr off x =>
    simp only [pureE] at e
    split at e
    · rename_i p e1; cases e; simp only [evalO, opd_of hf e1]
    · cases e
  | field off agg x =>
    simp only [pureE] at e
    split at e
    · rename_i cs e1; simp only [evalO, opd_of hf e1, e]; rfl
    · cases e
  | extract x i =>
    simp only [pureE] at e
    split at e
    · rename_i vs e1; simp only [evalO, opd_of hf e1, e]; rfl
    · cases e
  | len s x =>
    simp only [pureE] at e
    split at e
    · rename_i v e1; simp only [evalO, opd_of hf e1, e]; rfl
    · cases e
  | cap x =>
    simp only [pureE] at e
    split at e
    · rename_i v e1; simp only [evalO, opd_of hf e1, e]; rfl
    · cases e
  | makeFunc f first caps =>
    simp only [pureE] at e
    split at e
    · rename_i a b e1 e2; cases e; simp only [evalO, opds_of hf e1, opds_of hf e2]
    · cases e
  | minmax mx x y =>
    simp only [pureE] at e
    split at e
    · rename_i k a k' b e1 e2
      simp only [evalO, opd_of hf e1, opd_of hf e2]
      split at e
      · rename_i hk; cases e; rw [if_pos hk]
      · cases e
    · cases e
  | _ => simp [pureE] at e

/-- An operation has this value, whatever memory is. -/
def Pv (L : Env) (o : O) (v : AV) : Prop := ∀ fr h, Has fr L → evalO fr h o = some (.val v, h)
theorem Pv.of {o : O} {v : AV} (e : pureE L o = some v) : Pv L o v := fun fr h h1 => pureE_ok e h1 h
theorem OpOk.val {o : O} {v : AV} (e : Pv L o v) (k : K v A Hs) : OpOk F o L A Hs K := .mk fun fr h D h1 h2 =>
  ⟨v, h, A, Hs, D, ⟨0, fun n _ => by simp only [evalOp, e fr h h1]⟩, h2, Mv.refl _ _ _, k⟩

theorem Pv.index {e len : Nat} {x i : Opd} {p : Nat × Nat} {c : Cap} {k : IntKind} {n : Int} (h1 : opdE L x = some (.slice (some p) len c)) (h2 : opdE L i = some (.int k n)) (h3 : 0 ≤ n ∧ n < (len : Int)) :
    Pv L (.indexAddr none e x i) (.ptr (some (p.1, p.2 + n.toNat * e))) := fun fr h hf => by simp only [evalO, opd_of hf h1, opd_of hf h2, if_pos h3]
theorem Pv.indexP {e len : Nat} {x i : Opd} {p : Nat × Nat} {k : IntKind} {n : Int} (h1 : opdE L x = some (.ptr (some p))) (h2 : opdE L i = some (.int k n)) (h3 : 0 ≤ n ∧ n < (len : Int)) :
    Pv L (.indexAddr (some len) e x i) (.ptr (some (p.1, p.2 + n.toNat * e))) := fun fr h hf => by simp only [evalO, opd_of hf h1, opd_of hf h2, if_pos h3]
theorem Pv.indexA {len e : Nat} {agg : Option Nat} {x i : Opd} {cs : List AV} {k : IntKind} {n : Int} {v : AV} (h1 : opdE L x = some (.agg cs)) (h2 : opdE L i = some (.int k n)) (h3 : 0 ≤ n ∧ n < (len : Int)) (h4 : partA (n.toNat * e) agg cs = some v) :
    Pv L (.indexArr len e agg x i) v := fun fr h hf => by simp only [evalO, opd_of hf h1, opd_of hf h2, if_pos h3, h4]; rfl
theorem Pv.indexS {x i : Opd} {s : ByteArray} {k : IntKind} {n : Int} {b : UInt8} (h1 : opdE L x = some (.str s)) (h2 : opdE L i = some (.int k n)) (h3 : 0 ≤ n) (h4 : s.data.toList[n.toNat]? = some b) :
    Pv L (.indexStr x i) (.int .u8 b.toNat) := fun fr h hf => by simp only [evalO, opd_of hf h1, opd_of hf h2, if_pos h3, h4]; rfl
/-- A value that is told, by what its operands are. -/
theorem Pv.bin {op : BinOp} {x y : Opd} {a b v : AV} (h1 : opdE L x = some a) (h2 : opdE L y = some b) (h3 : binA op a b = some v) : Pv L (.bin op x y) v := Pv.of (by simp only [pureE, h1, h2, h3])
theorem Pv.pickT {c x y : Opd} {u : AV} (h1 : opdE L c = some (.bool true)) (h2 : opdE L x = some u) (h3 : (opdE L y).isSome = true) : Pv L (.pick c x y) u := by
  obtain ⟨w, hw⟩ := Option.isSome_iff_exists.1 h3
  exact Pv.of (by simp only [pureE, h1, h2, hw]; rfl)
theorem Pv.pickF {c x y : Opd} {u : AV} (h1 : opdE L c = some (.bool false)) (h2 : opdE L y = some u) (h3 : (opdE L x).isSome = true) : Pv L (.pick c x y) u := by
  obtain ⟨w, hw⟩ := Option.isSome_iff_exists.1 h3
  exact Pv.of (by simp only [pureE, h1, h2, hw]; rfl)
theorem Pv.add {x y : Opd} {k : IntKind} {a b : Int} (h1 : opdE L x = some (.int k a)) (h2 : opdE L y = some (.int k b)) (h3 : k.wrap (a + b) = a + b) : Pv L (.bin .add x y) (.int k (a + b)) := Pv.bin h1 h2 (by simp only [binA, binInt, if_true, h3])
theorem Pv.sub {x y : Opd} {k : IntKind} {a b : Int} (h1 : opdE L x = some (.int k a)) (h2 : opdE L y = some (.int k b)) (h3 : k.wrap (a - b) = a - b) : Pv L (.bin .sub x y) (.int k (a - b)) := Pv.bin h1 h2 (by simp only [binA, binInt, if_true, h3])
theorem Pv.mul {x y : Opd} {k : IntKind} {a b : Int} (h1 : opdE L x = some (.int k a)) (h2 : opdE L y = some (.int k b)) (h3 : k.wrap (a * b) = a * b) : Pv L (.bin .mul x y) (.int k (a * b)) := Pv.bin h1 h2 (by simp only [binA, binInt, if_true, h3])
theorem Pv.conv {x : Opd} {k k' : IntKind} {a : Int} (h1 : opdE L x = some (.int k' a)) (h3 : k.wrap a = a) : Pv L (.convInt k x) (.int k a) := Pv.of (by simp only [pureE, h1, h3])
theorem Pv.build {zero cs : List AV} {parts : List (Nat × Nat × Opd)} {l : List (Nat × Nat × AV)} (h1 : partsE L parts = some l) (h2 : fillA zero l = some cs) : Pv L (.build zero parts) (.agg cs) := Pv.of (by simp only [pureE, h1, h2]; rfl)
theorem Pv.eq {neg : Bool} {k : EqK} {x y : Opd} {a b : AV} {t : Bool} (h1 : opdE L x = some a) (h2 : opdE L y = some b) (h3 : eqA k a b = some t) : Pv L (.eq neg k x y) (.bool (cond neg (!t) t)) := Pv.of (by simp only [pureE, h1, h2, h3]; rfl)
theorem Pv.slice {k : SlK} {x : Opd} {lo hi mx : Option Opd} {v w : AV} {l0 i0 m0 : Option AV} {l i m : Option Int} (h1 : opdE L x = some v) (h2 : optOpdE L lo = some l0) (h3 : optOpdE L hi = some i0) (h4 : optOpdE L mx = some m0) (h5 : optInt l0 = some l) (h6 : optInt i0 = some i) (h7 : optInt m0 = some m) (h8 : sliceA k v l i m = some w) :
    Pv L (.slice k x lo hi mx) w := Pv.of (by simp only [pureE, h1, h2, h3, h4, h5, h6, h7, h8])

/-! ### Memory -/
def Rd (A : Per) (Hs : List Asn) (p : Nat × Nat) (v : AV) : Prop := ∀ h D, Own A Hs h D → h.cell p = some v
def Rds (A : Per) (Hs : List Asn) (p : Nat × Nat) (n : Nat) (vs : List AV) : Prop := ∀ h D, Own A Hs h D → h.cells p n = some vs
def Wr (A : Per) (Hs : List Asn) (p : Nat × Nat) (vs : List AV) (Hs' : List Asn) : Prop := ∀ h D, Own A Hs h D → ∃ h', h.write p vs = some h' ∧ Own A Hs' h' D ∧ Mv A D h A D h'

theorem Own.pts {h : Hp} {D : List Nat} {b : Nat} {k : Blk} (s : Own A Hs h D) (i : Nat) (hi : Hs[i]? = some (pts b k)) : h.get b = some k := by
  obtain ⟨DL, D1, DR, rfl, ⟨_, p1⟩, _⟩ := s.sat.at hi
  exact p1
theorem Rd.pts {b o : Nat} {cs : List AV} {k : BK} {v : AV} (i : Nat) (hi : Hs[i]? = some (pts b ⟨cs, k⟩)) (hk : k.hid = false) (hv : cs[o]? = some v) : Rd A Hs (b, o) v := fun h D s => by
  rw [Hp.cell_at (s.pts i hi) hk]; exact hv
theorem Rds.pts {b o n : Nat} {cs vs : List AV} {k : BK} (i : Nat) (hi : Hs[i]? = some (pts b ⟨cs, k⟩)) (hk : k.hid = false) (hle : o + n ≤ cs.length) (hv : (cs.drop o).take n = vs) : Rds A Hs (b, o) n vs := fun h D s => by
  rw [Hp.cells_at (s.pts i hi) hk hle, hv]
theorem Rd.per {b o : Nat} {cs : List AV} {k : BK} {v : AV} (hi : (b, (⟨cs, k⟩ : Blk)) ∈ A) (hk : k.hid = false) (hv : cs[o]? = some v) : Rd A Hs (b, o) v := fun h D s => by
  rw [Hp.cell_at (s.per _ hi).1 hk]; exact hv
theorem Rds.per {b o n : Nat} {cs vs : List AV} {k : BK} (hi : (b, (⟨cs, k⟩ : Blk)) ∈ A) (hk : k.hid = false) (hle : o + n ≤ cs.length) (hv : (cs.drop o).take n = vs) : Rds A Hs (b, o) n vs := fun h D s => by
  rw [Hp.cells_at (s.per _ hi).1 hk hle, hv]

/-- A block is written in. -/
theorem Own.put {h : Hp} {D : List Nat} {b : Nat} {k k' : Blk} (s : Own A Hs h D) (i : Nat) (hi : Hs[i]? = some (Asn.pts b k)) : Own A (Hs.set i (Asn.pts b k')) (h.put b k') D ∧ Mv A D h A D (h.put b k') := by
  obtain ⟨DL, D1, DR, rfl, ⟨rfl, p1⟩, _, p3⟩ := s.sat.at hi
  obtain ⟨n1, n2, n3⟩ := nodup_mid.1 s.nd
  have hb : b ∈ DL ++ ([b] ++ DR) := mem_mid.2 (.inl (by simp))
  have hne : ∀ d, d ≠ b → (h.put b k').get d = h.get d := fun d hd => by rw [Hp.get_put, if_neg hd]
  refine ⟨⟨p3 ⟨rfl, by rw [Hp.get_put, if_pos rfl]⟩ fun d hd => hne d (fun e => n3 b (by simp) (e ▸ hd)), s.nd, s.lt, fun p hp => ⟨?_, (s.per p hp).2.1, (s.per p hp).2.2⟩⟩, Nat.le_refl _, fun c _ hc => hne c (fun e => hc (e ▸ hb)), fun d hd => .inl hd, fun _ hp => hp, fun _ hp => .inl hp⟩
  rw [hne _ (fun e => (s.per p hp).2.1 (by rw [e]; exact hb))]
  exact (s.per p hp).1

theorem Wr.pts {b o : Nat} {cs vs : List AV} {k : BK} (i : Nat) (hi : Hs[i]? = some (Asn.pts b ⟨cs, k⟩)) (hk : k.hid = false) (hr : k ≠ .ro) (hle : o + vs.length ≤ cs.length) (h1 : vs.all AV.one = true) : Wr A Hs (b, o) vs (Hs.set i (Asn.pts b ⟨splice cs o vs, k⟩)) := fun h D s =>
  ⟨_, Hp.write_at (s.pts i hi) hk hr hle h1, s.put i hi⟩

/-- A block more. -/
theorem Own.new {h : Hp} {D : List Nat} (s : Own A Hs h D) (k : Blk) : Own A (Hs ++ [Asn.pts h.next k]) (h.new k) (D ++ [h.next]) ∧ Mv A D h A (D ++ [h.next]) (h.new k) := by
  have hne : ∀ d, d < h.next → (h.new k).get d = h.get d := fun d hd => by rw [Hp.get_new, if_neg (by omega)]
  refine ⟨⟨?_, ?_, ?_, fun p hp => ?_⟩, by simp, fun c hc _ => hne c hc, ?_, fun _ hp => hp, fun _ hp => .inl hp⟩
  · have h1 : Sat (h.new k) [Asn.pts h.next k] ([h.next] ++ []) := .cons ⟨rfl, by rw [Hp.get_new, if_pos rfl]⟩ .nil
    exact (s.sat.loc fun d hd => hne d (s.lt d hd)).append h1
  · rw [List.nodup_append]
    exact ⟨s.nd, by simp, fun a ha b hb => by have := s.lt a ha; simp at hb; omega⟩
  · intro d hd
    rcases List.mem_append.1 hd with e | e
    · have := s.lt d e; simp; omega
    · simp at e; simp [e]
  · obtain ⟨p1, p2, p3⟩ := s.per p hp
    refine ⟨by rw [hne _ p3]; exact p1, fun hh => ?_, by simp; omega⟩
    rcases List.mem_append.1 hh with e | e
    · exact p2 e
    · simp at e; omega
  · intro d hd
    rcases List.mem_append.1 hd with e | e
    · exact .inl e
    · simp at e; exact .inr (by omega)

theorem OpOk.load {a : Opd} {p : Nat × Nat} {v : AV} (h1 : opdE L a = some (.ptr (some p))) (h2 : Rd A Hs p v) (k : K v A Hs) : OpOk F (.load none a) L A Hs K := .mk fun fr h D hf s =>
  ⟨v, h, A, Hs, D, ⟨0, fun n _ => by simp only [evalOp, evalO, opd_of hf h1, h2 h D s]; rfl⟩, s, Mv.refl _ _ _, k⟩
theorem OpOk.loads {a : Opd} {p : Nat × Nat} {n : Nat} {vs : List AV} (h1 : opdE L a = some (.ptr (some p))) (h2 : Rds A Hs p n vs) (k : K (.agg vs) A Hs) : OpOk F (.load (some n) a) L A Hs K := .mk fun fr h D hf s =>
  ⟨.agg vs, h, A, Hs, D, ⟨0, fun n _ => by simp only [evalOp, evalO, opd_of hf h1, h2 h D s]; rfl⟩, s, Mv.refl _ _ _, k⟩
theorem OpOk.store {a x : Opd} {p : Nat × Nat} {v : AV} {n : Nat} (h1 : opdE L a = some (.ptr (some p))) (h2 : opdE L x = some v) (h3 : v.cells.length = n) (h4 : Wr A Hs p v.cells Hs') (k : K .undef A Hs') : OpOk F (.store n a x) L A Hs K := .mk fun fr h D hf s => by
  obtain ⟨h', e, s', m⟩ := h4 h D s
  exact ⟨.undef, h', A, Hs', D, ⟨0, fun n _ => by simp only [evalOp, evalO, opd_of hf h1, opd_of hf h2, if_pos h3, e]; rfl⟩, s', m, k⟩
theorem OpOk.new {cells : List AV} (k : ∀ b, K (.ptr (some (b, 0))) A (Hs ++ [Asn.pts b ⟨cells, .own⟩])) : OpOk F (.new cells) L A Hs K := .mk fun fr h D hf s =>
  ⟨_, _, A, _, _, ⟨0, fun n _ => by simp only [evalOp, evalO]⟩, (s.new _).1, (s.new _).2, k h.next⟩
theorem OpOk.box {x : Opd} {v : AV} (h1 : opdE L x = some v) (h2 : v.cells.all AV.one = true) (k : ∀ b, K (.ptr (some (b, 0))) A (Hs ++ [Asn.pts b ⟨v.cells, .own⟩])) : OpOk F (.box x) L A Hs K := .mk fun fr h D hf s =>
  ⟨_, _, A, _, _, ⟨0, fun n _ => by simp only [evalOp, evalO, opd_of hf h1, if_pos h2]⟩, (s.new _).1, (s.new _).2, k h.next⟩
theorem OpOk.buildSlice {len : Nat} {zero cs : List AV} {parts : List (Nat × Nat × Opd)} {l : List (Nat × Nat × AV)} (h1 : partsE L parts = some l) (h2 : fillA zero l = some cs) (k : ∀ b, K (.slice (some (b, 0)) len (.known len)) A (Hs ++ [Asn.pts b ⟨cs, .own⟩])) : OpOk F (.buildSlice len zero parts) L A Hs K := .mk fun fr h D hf s =>
  ⟨_, _, A, _, _, ⟨0, fun n _ => by simp only [evalOp, evalO, parts_of hf h1, h2]; rfl⟩, (s.new _).1, (s.new _).2, k h.next⟩
theorem OpOk.makeSlice {bytes : Nat} {zero : List AV} {l c : Opd} {k1 k2 : IntKind} {n m : Int} (h1 : opdE L l = some (.int k1 n)) (h2 : opdE L c = some (.int k2 m)) (h3 : 0 ≤ n ∧ n ≤ m ∧ m * bytes ≤ maxLenB ∧ m < 4611686018427387904) (k : ∀ b, K (.slice (some (b, 0)) n.toNat (.known m.toNat)) A (Hs ++ [Asn.pts b ⟨(List.replicate m.toNat zero).flatten, .own⟩])) :
    OpOk F (.makeSlice bytes zero l c) L A Hs K := .mk fun fr h D hf s =>
  ⟨_, _, A, _, _, ⟨0, fun n _ => by simp only [evalOp, evalO, opd_of hf h1, opd_of hf h2, if_pos h3]⟩, (s.new _).1, (s.new _).2, k h.next⟩

/-! ### Calls -/
theorem OpOk.call {f : FuncId} {first caps l : List AV} {g : Opd} {ao : List Opd} {H1 R : List Asn} {Q1 : AV → Per → List Asn → Prop} (h1 : opdE L g = some (.func f first caps)) (h2 : opdsE L ao = some l) (hf : Does F f (first ++ l ++ caps) A H1 Q1) (hs : Hs = H1 ++ R)
    (k : ∀ v A' H1', (∀ p ∈ A, p ∈ A') → Q1 v A' H1' → K v A' (H1' ++ R)) : OpOk F (.call g ao) L A Hs K := .mk fun fr h D hh s => by
  subst hs
  obtain ⟨D1, D2, rfl, s1, s2⟩ := s.sat.split
  have s0 : Own A (H1 ++ R) h ([] ++ (D1 ++ D2)) := s
  obtain ⟨v, h', A', H1', D1', ⟨N, e⟩, p1, p2, p3⟩ := hf h D1 (s0.sub s1)
  obtain ⟨q1, q2⟩ := s0.part (H1 := H1' ++ R) p2 p1 (fun hd => by
    have := p1.sat.append (s2.loc fun d hm => hd d (by simpa using hm))
    simpa using this)
  exact ⟨v, h', A', _, _, ⟨N, fun n hn => by simp only [evalOp, evalO, opd_of hh h1, opds_of hh h2, evalT_fn]; exact e n hn⟩, q1, q2, k v A' H1' p2.per p3⟩

/-- A call that needs one thing: it is given back behind the others. -/
theorem OpOk.call1 {f : FuncId} {first caps l : List AV} {g : Opd} {ao : List Opd} {P : Asn} {Q1 : AV → Per → List Asn → Prop} (h1 : opdE L g = some (.func f first caps)) (h2 : opdsE L ao = some l) (i : Nat) (hi : Hs[i]? = some P) (hf : Does F f (first ++ l ++ caps) A [P] Q1)
    (k : ∀ v A' H', (∀ p ∈ A, p ∈ A') → Q1 v A' H' → K v A' (Hs.eraseIdx i ++ H')) : OpOk F (.call g ao) L A Hs K := .mk fun fr h D hh s => by
  obtain ⟨DL, D1, DR, rfl, r1, r2, _⟩ := s.sat.at hi
  have t1 : Sat h [P] (D1 ++ []) := .cons r1 .nil
  rw [List.append_nil] at t1
  obtain ⟨v, h', A', H1', D1', ⟨N, e⟩, p1, p2, p3⟩ := hf h D1 (s.sub t1)
  -- the order of the parts: the others first
  have hperm : ∀ {X Y Z : List Nat}, (X ++ (Y ++ Z)).Perm (X ++ Z ++ (Y ++ [])) := fun {X Y Z} => by
    rw [List.append_nil, List.append_assoc]
    exact List.Perm.append_left X List.perm_append_comm
  have s' : Own A (Hs.eraseIdx i ++ [P]) h ((DL ++ DR) ++ (D1 ++ [])) :=
    ⟨r2.append (.cons r1 .nil), hperm.nodup_iff.1 s.nd, fun d hd => s.lt d (hperm.mem_iff.2 hd), fun p hp => ⟨(s.per p hp).1, fun hd => (s.per p hp).2.1 (hperm.mem_iff.2 hd), (s.per p hp).2.2⟩⟩
  obtain ⟨q1, q2⟩ := s'.part (H1 := Hs.eraseIdx i ++ H1') p2 p1 (fun hd => by
    have := (r2.loc fun d hm => hd d (by simpa using hm)).append p1.sat
    simpa using this)
  refine ⟨v, h', A', _, _, ⟨N, fun n hn => by simp only [evalOp, evalO, opd_of hh h1, opds_of hh h2, evalT_fn]; exact e n hn⟩, q1, ⟨q2.next, fun c hc hd => q2.kept c hc fun hh => hd (hperm.mem_iff.2 hh), fun d hd => (q2.sub d hd).imp (fun hh => hperm.mem_iff.2 hh) id, q2.per, fun p hp => (q2.new p hp).imp id fun r => r.imp (fun hh => hperm.mem_iff.2 hh) id⟩, k v A' H1' p2.per p3⟩

/-- As it is given back, it stays where it stood. -/
theorem OpOk.call1s {f : FuncId} {first caps l : List AV} {g : Opd} {ao : List Opd} {P : Asn} {Q1 : AV → Per → Asn → Prop} (h1 : opdE L g = some (.func f first caps)) (h2 : opdsE L ao = some l) (i : Nat) (hi : Hs[i]? = some P) (hf : Does F f (first ++ l ++ caps) A [P] fun v A' H' => ∃ P', H' = [P'] ∧ Q1 v A' P')
    (k : ∀ v A' P', (∀ p ∈ A, p ∈ A') → Q1 v A' P' → K v A' (Hs.set i P')) : OpOk F (.call g ao) L A Hs K := .mk fun fr h D hh s => by
  obtain ⟨DL, D1, DR, rfl, r1, r2, r3⟩ := s.sat.at hi
  have t1 : Sat h [P] (D1 ++ []) := .cons r1 .nil
  rw [List.append_nil] at t1
  obtain ⟨v, h', A', _, D1', ⟨N, e⟩, p1, p2, P', rfl, p3⟩ := hf h D1 (s.sub t1)
  obtain ⟨q1, q2⟩ := s.part (H1 := Hs.set i P') p2 p1 (fun hd => by
    obtain ⟨⟩ | ⟨u1, u2⟩ := p1.sat
    cases u2
    exact r3 (by simpa using u1) hd)
  exact ⟨v, h', A', _, _, ⟨N, fun n hn => by simp only [evalOp, evalO, opd_of hh h1, opds_of hh h2, evalT_fn]; exact e n hn⟩, q1, q2, k v A' P' p2.per p3⟩

/-- A call that needs nothing that is owned. -/
theorem OpOk.call0 {f : FuncId} {first caps l : List AV} {g : Opd} {ao : List Opd} {Q1 : AV → Per → List Asn → Prop} (h1 : opdE L g = some (.func f first caps)) (h2 : opdsE L ao = some l) (hf : Does F f (first ++ l ++ caps) A [] Q1)
    (k : ∀ v A' H', (∀ p ∈ A, p ∈ A') → Q1 v A' H' → K v A' (Hs ++ H')) : OpOk F (.call g ao) L A Hs K := .mk fun fr h D hh s => by
  have s0 : Own A Hs h (D ++ ([] ++ [])) := by simpa using s
  obtain ⟨v, h', A', H1', D1', ⟨N, e⟩, p1, p2, p3⟩ := hf h [] ⟨.nil, by simp, by simp, fun p hp => ⟨(s.per p hp).1, by simp, (s.per p hp).2.2⟩⟩
  obtain ⟨q1, q2⟩ := s0.part (H1 := Hs ++ H1') p2 p1 (fun hd => by
    have := (s.sat.loc fun d hm => hd d (by simpa using hm)).append p1.sat
    simpa using this)
  exact ⟨v, h', A', _, _, ⟨N, fun n hn => by simp only [evalOp, evalO, opd_of hh h1, opds_of hh h2, evalT_fn]; exact e n hn⟩, q1, by simpa using q2, k v A' H1' p2.per p3⟩

/-! ### A function with a text -/
def resT (L : Env) : List RV → Option (List AV)
  | [] => some []
  | .tmp t :: l => match getE L t, resT L l with
    | some v, some vs => some (v :: vs)
    | _, _ => none
  | .cell _ _ :: _ => none
theorem resT_ok {fr : Fr} (hf : Has fr L) (h : Hp) : ∀ {l : List RV} {vs : List AV}, resT L l = some vs → resA fr h l = some vs
  | [], vs, e => e
  | .tmp t :: l, vs, e => by
    simp only [resT] at e
    split at e
    · rename_i v ws e1 e2
      simp only [resA, hf _ _ e1, resT_ok hf h e2]; exact e
    · cases e
  | .cell _ _ :: _, vs, e => by simp [resT] at e

/-- What a function hands back. -/
structure Res (L : Env) (A : Per) (Hs : List Asn) (res : List RV) (vs : List AV) : Prop where
  run : ∀ fr h D, Has fr L → Own A Hs h D → resA fr h res = some vs
theorem Res.tmp {res : List RV} {vs : List AV} (e : resT L res = some vs) : Res L A Hs res vs := ⟨fun fr h D hf s => resT_ok hf h e⟩
theorem Res.nil : Res L A Hs [] [] := ⟨fun fr h D hf s => rfl⟩
theorem Res.t {t : Nat} {res : List RV} {v : AV} {vs : List AV} (e : getE L t = some v) (r : Res L A Hs res vs) : Res L A Hs (.tmp t :: res) (v :: vs) := ⟨fun fr h D hf s => by simp only [resA, hf _ _ e, r.run fr h D hf s]⟩
theorem Res.c {t : Nat} {p : Nat × Nat} {res : List RV} {v : AV} {vs : List AV} (e : getE L t = some (.ptr (some p))) (hv : ∀ h D, Own A Hs h D → h.cell p = some v) (r : Res L A Hs res vs) : Res L A Hs (.cell t none :: res) (v :: vs) := ⟨fun fr h D hf s => by simp only [resA, hf _ _ e, loadA, hv h D s, r.run fr h D hf s]⟩
theorem Res.cs {t n : Nat} {p : Nat × Nat} {res : List RV} {cs vs : List AV} (e : getE L t = some (.ptr (some p))) (hv : ∀ h D, Own A Hs h D → h.cells p n = some cs) (r : Res L A Hs res vs) : Res L A Hs (.cell t (some n) :: res) (.agg cs :: vs) := ⟨fun fr h D hf s => by simp only [resA, hf _ _ e, loadA, hv h D s, r.run fr h D hf s, Option.map_some]⟩

/-- What is to hold behind a function's text. -/
def retM (res : List RV) (Q : AV → Per → List Asn → Prop) : Post
  | .exit _, _, _, _ => False
  | _, L, A, Hs => ∃ vs A' Hs', Res L A Hs res vs ∧ Ent A Hs A' Hs' ∧ Q (oneOrTuple vs) A' Hs'
structure retQ (res : List RV) (Q : AV → Per → List Asn → Prop) (x : X) (L : Env) (A : Per) (Hs : List Asn) : Prop where
  out : retM res Q x L A Hs
theorem retQ_r {res : List RV} {vs : List AV} {Q : AV → Per → List Asn → Prop} (h1 : resT L res = some vs) (h2 : Ent A Hs A' Hs') (h3 : Q (oneOrTuple vs) A' Hs') : retQ res Q .ret L A Hs := ⟨vs, A', Hs', .tmp h1, h2, h3⟩
theorem retQ_n {res : List RV} {vs : List AV} {Q : AV → Per → List Asn → Prop} (h1 : resT L res = some vs) (h2 : Ent A Hs A' Hs') (h3 : Q (oneOrTuple vs) A' Hs') : retQ res Q .normal L A Hs := ⟨vs, A', Hs', .tmp h1, h2, h3⟩
theorem retQ_x {res : List RV} {vs : List AV} {Q : AV → Per → List Asn → Prop} (h1 : Res L A Hs res vs) (h2 : Ent A Hs A' Hs') (h3 : Q (oneOrTuple vs) A' Hs') : retQ res Q .ret L A Hs := ⟨vs, A', Hs', h1, h2, h3⟩

theorem Does.text {f : FuncId} {fn : SFn} {args : List AV} {Q : AV → Per → List Asn → Prop} (hF : F f = some (.text fn)) (h : WP F fn.body (argsE 0 args) A Hs (retQ fn.res Q)) : Does F f args A Hs Q := fun hp D s => by
  obtain ⟨x, fr, h', L', A', Hs', D', ⟨N, e⟩, p1, p2, p3, p4⟩ := h.run _ hp D (Has.args args 0) s
  have fin : ∀ {vs A2 Hs2}, (x = .normal ∨ x = .ret) → Res L' A' Hs' fn.res vs → Ent A' Hs' A2 Hs2 → Q (oneOrTuple vs) A2 Hs2 → ∃ v h' A' Hs' D', Ev F f args hp v h' ∧ Own A' Hs' h' D' ∧ Mv A D hp A' D' h' ∧ Q v A' Hs' := by
    intro vs A2 Hs2 hx q1 q2 q3
    obtain ⟨D2, r1, r2⟩ := q2 _ _ p2
    refine ⟨_, h', A2, Hs2, D2, ⟨N + 1, fun n hn => ?_⟩, r1, p3.trans r2, q3⟩
    obtain ⟨k, rfl⟩ : ∃ k, n = k + 1 := ⟨n - 1, by omega⟩
    rw [evalFn_t hF, e k (by omega)]
    have := q1.run fr h' D' p1 p2
    rcases hx with rfl | rfl <;> simp only [this, Option.map_some]
  replace p4 := p4.out
  cases x with
  | exit i => exact p4.elim
  | normal => obtain ⟨vs, A2, Hs2, q1, q2, q3⟩ := p4; exact fin (.inl rfl) q1 q2 q3
  | ret => obtain ⟨vs, A2, Hs2, q1, q2, q3⟩ := p4; exact fin (.inr rfl) q1 q2 q3

theorem Does.fn {f : FuncId} {res : List RV} {body : S} {args : List AV} {Q : AV → Per → List Asn → Prop} (hF : F f = some (.text ⟨res, body⟩)) (h : WP F body (argsE 0 args) A Hs (retQ res Q)) : Does F f args A Hs Q := Does.text hF h
/-- A function that is one step. -/
theorem Does.prim {f : FuncId} {c : List AV → Hp → Option (AV × Hp)} {args : List AV} {Q : AV → Per → List Asn → Prop} (hF : F f = some (.prim c)) (h : ∀ hp D, Own A Hs hp D → ∃ v h' A' Hs' D', c args hp = some (v, h') ∧ Own A' Hs' h' D' ∧ Mv A D hp A' D' h' ∧ Q v A' Hs') : Does F f args A Hs Q := fun hp D s => by
  obtain ⟨v, h', A', Hs', D', e, r⟩ := h hp D s
  exact ⟨v, h', A', Hs', D', ⟨1, fun n hn => by
    obtain ⟨k, rfl⟩ : ∃ k, n = k + 1 := ⟨n - 1, by omega⟩
    simp only [evalFn, evalT, hF, runDef, e]⟩, r⟩
theorem Does.mono {f : FuncId} {args : List AV} {Q Q' : AV → Per → List Asn → Prop} (h : Does F f args A Hs Q) (hq : ∀ v A Hs, Q v A Hs → Q' v A Hs) : Does F f args A Hs Q' := fun hp D s => by
  obtain ⟨v, h', A', Hs', D', a, b, c, d⟩ := h hp D s
  exact ⟨v, h', A', Hs', D', a, b, c, hq _ _ _ d⟩
theorem Does.ent {f : FuncId} {args : List AV} {Q : AV → Per → List Asn → Prop} (he : Ent A Hs A' Hs') (h : Does F f args A' Hs' Q) : Does F f args A Hs Q := fun hp D s => by
  obtain ⟨D1, s1, m1⟩ := he hp D s
  obtain ⟨v, h', A2, Hs2, D', a, b, c, d⟩ := h hp D1 s1
  exact ⟨v, h', A2, Hs2, D', a, b, m1.trans c, d⟩
/-- From what was shown of a run by itself. -/
theorem Does.of_eval {f : FuncId} {args : List AV} {Q : AV → Per → List Asn → Prop} {N : Nat} (h : ∀ hp D, Own A Hs hp D → ∃ v h' A' Hs' D', (∀ n, N ≤ n → evalFn F n f args hp = some (v, h')) ∧ Own A' Hs' h' D' ∧ Mv A D hp A' D' h' ∧ Q v A' Hs') : Does F f args A Hs Q := fun hp D s => by
  obtain ⟨v, h', A', Hs', D', a, b, c, d⟩ := h hp D s
  exact ⟨v, h', A', Hs', D', ⟨N, a⟩, b, c, d⟩
end
end Go.Lite.Sep
