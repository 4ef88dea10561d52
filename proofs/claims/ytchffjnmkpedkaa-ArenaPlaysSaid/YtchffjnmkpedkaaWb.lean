/-
  SEP, part b: regions whose order is open; slices that grow. Own work of this session.
-/
import Derived.Test.YtchffjnmkpedkaaWa
set_option linter.unusedSectionVars false
set_option linter.unusedSimpArgs false
set_option linter.unusedVariables false
namespace Go.Lite.Sep
set_option linter.unusedSectionVars false
set_option linter.unusedSimpArgs false
set_option linter.unusedVariables false
open Go.Lite
open Asn (pts slb sl)
variable {F : FuncId → Option Def} {L L0 : Env} {A A' : Per} {Hs Hs' : List Asn} {Q : Post}

/-! ### A region whose order is open -/
abbrev Hist := List (Per × List Asn)
def DI (hist : Hist) (hs : List Hp) : Prop := hist.length = hs.length ∧ ∀ (j : Nat) c h, hist[j]? = some c → hs[j]? = some h → ∃ D, Own c.1 c.2 h D
theorem DI.one {h : Hp} {D : List Nat} (s : Own A Hs h D) : DI [(A, Hs)] [h] := ⟨rfl, fun j c h' h1 h2 => by
  cases j with
  | zero => simp at h1 h2; subst h1 h2; exact ⟨D, s⟩
  | succ j => simp at h1⟩
theorem DI.snoc {hist : Hist} {hs : List Hp} {h : Hp} {D : List Nat} (d : DI hist hs) (s : Own A Hs h D) : DI (hist ++ [(A, Hs)]) (hs ++ [h]) := ⟨by simp [d.1], fun j c h' h1 h2 => by
  have hl := d.1
  rw [List.getElem?_append] at h1 h2
  by_cases hj : j < hist.length
  · rw [if_pos hj] at h1
    rw [if_pos (by omega)] at h2
    exact d.2 j c h' h1 h2
  · rw [if_neg hj] at h1
    rw [if_neg (by omega)] at h2
    have : j - hist.length = 0 := by
      rcases Nat.lt_or_ge (j - hist.length) 1 with hh | hh
      · omega
      · rw [List.getElem?_eq_none (by simpa using hh)] at h1; cases h1
    have h3 : j - hs.length = 0 := by omega
    rw [this] at h1
    rw [h3] at h2
    simp at h1 h2
    subst h1 h2
    exact ⟨D, s⟩⟩

def RdK (A : Per) (Hs : List Asn) (rk : RK) (v : AV) : Prop := ∀ h D, Own A Hs h D → (match readA h rk with | some u => AV.beq u v | none => false) = true
theorem RdK.load {p : Nat × Nat} {v : AV} (h1 : Rd A Hs p v) (h2 : AV.beq v v = true) : RdK A Hs (.load p none) v := fun h D s => by simp only [readA, loadA, h1 h D s, h2]
theorem RdK.loads {p : Nat × Nat} {n : Nat} {vs : List AV} (h1 : Rds A Hs p n vs) (h2 : AV.beq (.agg vs) (.agg vs) = true) : RdK A Hs (.load p (some n)) (.agg vs) := fun h D s => by simp only [readA, loadA, h1 h D s, Option.map_some, h2]

def AllP {α : Type} (p : α → Prop) : List α → Prop
  | [] => True
  | a :: l => p a ∧ AllP p l
theorem AllP.mem {α : Type} {p : α → Prop} : ∀ {l : List α}, AllP p l → ∀ a ∈ l, p a
  | [], _, a, h => by cases h
  | b :: l, hp, a, h => by
    rcases List.mem_cons.1 h with e | e
    · rw [e]; exact hp.1
    · exact AllP.mem hp.2 a e
def RdsOk (hist : Hist) : List RD → Prop
  | [] => True
  | r :: rs => AllP (fun c : Per × List Asn => RdK c.1 c.2 r.rk r.v) ((hist.take (r.hi + 1)).drop r.lo) ∧ RdsOk hist rs
theorem RdsOk.nil {hist : Hist} : RdsOk hist [] := trivial
theorem RdsOk.cons {hist : Hist} {r : RD} {rs : List RD} (h1 : AllP (fun c : Per × List Asn => RdK c.1 c.2 r.rk r.v) ((hist.take (r.hi + 1)).drop r.lo)) (h2 : RdsOk hist rs) : RdsOk hist (r :: rs) := ⟨h1, h2⟩
theorem AllP.nil {α : Type} {p : α → Prop} : AllP p [] := trivial
theorem AllP.cons {α : Type} {p : α → Prop} {a : α} {l : List α} (h1 : p a) (h2 : AllP p l) : AllP p (a :: l) := ⟨h1, h2⟩

theorem reads_ok {hist : Hist} {hs : List Hp} (d : DI hist hs) : ∀ {rs : List RD}, RdsOk hist rs → readsOk hs rs = true
  | [], _ => rfl
  | r :: rs, ⟨h1, h2⟩ => by
    simp only [readsOk, Bool.and_eq_true]
    refine ⟨List.all_eq_true.2 fun h hm => ?_, reads_ok d h2⟩
    obtain ⟨j, hj⟩ := List.getElem?_of_mem hm
    rw [List.getElem?_drop, List.getElem?_take] at hj
    split at hj
    · rename_i hlt
      have hl : r.lo + j < hist.length := by
        rw [d.1]
        rcases Nat.lt_or_ge (r.lo + j) hs.length with hh | hh
        · exact hh
        · rw [List.getElem?_eq_none hh] at hj; cases hj
      have hc : hist[r.lo + j]? = some hist[r.lo + j] := List.getElem?_eq_getElem hl
      obtain ⟨D, s⟩ := d.2 _ _ _ hc hj
      have hmem : hist[r.lo + j] ∈ (hist.take (r.hi + 1)).drop r.lo := by
        refine List.mem_of_getElem? (i := j) ?_
        rw [List.getElem?_drop, List.getElem?_take, if_pos hlt, hc]
      exact h1.mem _ hmem h D s
    · cases hj

structure WD (F : FuncId → Option Def) (l : List DOp) (ids : List (Nat × List AV)) (L : Env) (hist : Hist) (rs : List RD) (A : Per) (Hs : List Asn) (Q : Env → Per → List Asn → Prop) : Prop where
  run : ∀ fr h D hs, Has fr L → Own A Hs h D → DI hist hs → hs.getLast? = some h → ∃ fr' h' hs' rs' L' A' Hs' D', (∃ N, ∀ n, N ≤ n → evalD (evalT F n) false l ids fr h hs rs = some (fr', hs', rs')) ∧ readsOk hs' rs' = true ∧ hs'.getLast? = some h' ∧ Has fr' L' ∧ Own A' Hs' h' D' ∧ Mv A D h A' D' h' ∧ Q L' A' Hs'

section
variable {Qd : Env → Per → List Asn → Prop} {ids : List (Nat × List AV)} {hist : Hist} {rs : List RD} {l : List DOp} {lo hi : Nat} {dst : Option Nat} {o : O}

theorem WD.nil (h1 : RdsOk hist rs) (h2 : Qd L A Hs) : WD F [] ids L hist rs A Hs Qd := .mk fun fr h D hs p1 p2 p3 p4 =>
  ⟨fr, h, hs, rs, L, A, Hs, D, ⟨0, fun n _ => rfl⟩, reads_ok p3 h1, p4, p1, p2, Mv.refl _ _ _, h2⟩

theorem WD.pure {v : AV} (hc : o.cls false = .pure) (e : Pv L o v) (h : WD F l ids.tail (putE L dst v) hist rs A Hs Qd) : WD F (⟨⟨dst, none, o⟩, lo, hi⟩ :: l) ids L hist rs A Hs Qd := .mk fun fr hp D hs p1 p2 p3 p4 => by
  obtain ⟨fr', h', hs', rs', L', A', Hs', D', ⟨N, e1⟩, r⟩ := h.run (putO fr dst v) hp D hs (p1.put dst v) p2 p3 p4
  exact ⟨fr', h', hs', rs', L', A', Hs', D', ⟨N, fun n hn => by simp only [evalD, wantedA, hc, evalOp, e fr hp p1]; exact e1 n hn⟩, r⟩

theorem WD.load {a : Opd} {p : Nat × Nat} {v : AV} (h1 : opdE L a = some (.ptr (some p))) (h2 : Rd A Hs p v) (h : WD F l ids.tail (putE L dst v) hist (⟨.load p none, v, lo, hi⟩ :: rs) A Hs Qd) : WD F (⟨⟨dst, none, .load none a⟩, lo, hi⟩ :: l) ids L hist rs A Hs Qd := .mk fun fr hp D hs p1 p2 p3 p4 => by
  obtain ⟨fr', h', hs', rs', L', A', Hs', D', ⟨N, e1⟩, r⟩ := h.run (putO fr dst v) hp D hs (p1.put dst v) p2 p3 p4
  exact ⟨fr', h', hs', rs', L', A', Hs', D', ⟨N, fun n hn => by simp only [evalD, wantedA, O.cls, readK, opd_of p1 h1, readA, loadA, h2 hp D p2]; exact e1 n hn⟩, r⟩
theorem WD.loads {a : Opd} {p : Nat × Nat} {n : Nat} {vs : List AV} (h1 : opdE L a = some (.ptr (some p))) (h2 : Rds A Hs p n vs) (h : WD F l ids.tail (putE L dst (.agg vs)) hist (⟨.load p (some n), .agg vs, lo, hi⟩ :: rs) A Hs Qd) : WD F (⟨⟨dst, none, .load (some n) a⟩, lo, hi⟩ :: l) ids L hist rs A Hs Qd := .mk fun fr hp D hs p1 p2 p3 p4 => by
  obtain ⟨fr', h', hs', rs', L', A', Hs', D', ⟨N, e1⟩, r⟩ := h.run (putO fr dst (.agg vs)) hp D hs (p1.put dst _) p2 p3 p4
  exact ⟨fr', h', hs', rs', L', A', Hs', D', ⟨N, fun n hn => by simp only [evalD, wantedA, O.cls, readK, opd_of p1 h1, readA, loadA, h2 hp D p2, Option.map_some]; exact e1 n hn⟩, r⟩

theorem WD.loud (hc : o.cls false = .loud) (h : OpOk F o L A Hs fun v A' Hs' => WD F l ids.tail (putE L dst v) (hist ++ [(A', Hs')]) rs A' Hs' Qd) : WD F (⟨⟨dst, none, o⟩, lo, hi⟩ :: l) ids L hist rs A Hs Qd := .mk fun fr hp D hs p1 p2 p3 p4 => by
  obtain ⟨v, h1, A1, Hs1, D1, ⟨N, e⟩, q1, q2, q3⟩ := h.run fr hp D p1 p2
  obtain ⟨fr', h', hs', rs', L', A', Hs', D', ⟨N2, e2⟩, t1, t2, t3, t4, t5, t6⟩ := q3.run (putO fr dst v) h1 D1 (hs ++ [h1]) (p1.put dst v) q1 (p3.snoc q1) (by simp)
  exact ⟨fr', h', hs', rs', L', A', Hs', D', ⟨max N N2, fun n hn => by simp only [evalD, wantedA, hc, e n (by omega)]; exact e2 n (by omega)⟩, t1, t2, t3, t4, q2.trans t5, t6⟩

theorem WD.new {cells : List AV} {b : Nat} (hb : AV.beq (.agg cells) (.agg cells) = true) (h : WD F l ids (putE L dst (.ptr (some (b, 0)))) hist rs A Hs Qd) : WD F (⟨⟨dst, none, .new cells⟩, lo, hi⟩ :: l) ((b, cells) :: ids) L hist rs A Hs Qd := .mk fun fr hp D hs p1 p2 p3 p4 => by
  obtain ⟨fr', h', hs', rs', L', A', Hs', D', ⟨N, e1⟩, r⟩ := h.run (putO fr dst (.ptr (some (b, 0)))) hp D hs (p1.put dst _) p2 p3 p4
  exact ⟨fr', h', hs', rs', L', A', Hs', D', ⟨N, fun n hn => by simp only [evalD, wantedA, O.cls, newOf, List.headD_cons, hb, if_true, List.tail_cons, mkV]; exact e1 n hn⟩, r⟩

theorem WD.guard_y {t : Nat} {want : Bool} (hb : getE L t = some (.bool want)) (h : WD F (⟨⟨dst, none, o⟩, lo, hi⟩ :: l) ids L hist rs A Hs Qd) : WD F (⟨⟨dst, some (t, want), o⟩, lo, hi⟩ :: l) ids L hist rs A Hs Qd := .mk fun fr hp D hs p1 p2 p3 p4 => by
  obtain ⟨fr', h', hs', rs', L', A', Hs', D', ⟨N, e1⟩, r⟩ := h.run fr hp D hs p1 p2 p3 p4
  have hg := p1 t _ hb
  exact ⟨fr', h', hs', rs', L', A', Hs', D', ⟨N, fun n hn => by
    have := e1 n hn
    simp only [evalD, wantedA, hg, beq_self_eq_true] at this ⊢
    exact this⟩, r⟩
theorem WD.guard_n {t : Nat} {want b : Bool} (hb : getE L t = some (.bool b)) (hw : b = !want) (hc : (match o.cls false with | .loud => true | _ => false) = false) (h : WD F l ids.tail (putE L dst .undef) hist rs A Hs Qd) : WD F (⟨⟨dst, some (t, want), o⟩, lo, hi⟩ :: l) ids L hist rs A Hs Qd := .mk fun fr hp D hs p1 p2 p3 p4 => by
  subst hw
  obtain ⟨fr', h', hs', rs', L', A', Hs', D', ⟨N, e1⟩, r⟩ := h.run (putO fr dst .undef) hp D hs (p1.put dst _) p2 p3 p4
  have hg := p1 t _ hb
  have hbw : ((!want) == want) = false := by cases want <;> rfl
  have hcl : ¬ o.cls false = .loud := fun e => by rw [e] at hc; cases hc
  exact ⟨fr', h', hs', rs', L', A', Hs', D', ⟨N, fun n hn => by
    have := e1 n hn
    simp only [evalD, wantedA, hg, hbw, if_neg hcl] at this ⊢
    exact this⟩, r⟩
theorem WD.guard_nl {t : Nat} {want b : Bool} (hb : getE L t = some (.bool b)) (hw : b = !want) (hc : o.cls false = .loud) (h : WD F l ids.tail (putE L dst .undef) (hist ++ [(A, Hs)]) rs A Hs Qd) : WD F (⟨⟨dst, some (t, want), o⟩, lo, hi⟩ :: l) ids L hist rs A Hs Qd := .mk fun fr hp D hs p1 p2 p3 p4 => by
  subst hw
  obtain ⟨fr', h', hs', rs', L', A', Hs', D', ⟨N, e1⟩, r⟩ := h.run (putO fr dst .undef) hp D (hs ++ [hp]) (p1.put dst _) p2 (p3.snoc p2) (by simp)
  have hg := p1 t _ hb
  have hbw : ((!want) == want) = false := by cases want <;> rfl
  exact ⟨fr', h', hs', rs', L', A', Hs', D', ⟨N, fun n hn => by
    have := e1 n hn
    simp only [evalD, wantedA, hg, hbw, if_pos hc] at this ⊢
    exact this⟩, r⟩
theorem WD.cases {t : Nat} {b : Bool} (hb : getE L t = some (.bool b)) (h1 : b = true → WD F l ids ((t, .bool true) :: L) hist rs A Hs Qd) (h2 : b = false → WD F l ids ((t, .bool false) :: L) hist rs A Hs Qd) : WD F l ids L hist rs A Hs Qd := .mk fun fr hp D hs p1 p2 p3 p4 => by
  have hg := p1 t _ hb
  cases b with
  | true => exact (h1 rfl).run fr hp D hs (p1.know hg) p2 p3 p4
  | false => exact (h2 rfl).run fr hp D hs (p1.know hg) p2 p3 p4

/-- The allocations of a region come ahead of it. -/
def Hoist : List DOp → (List (Nat × List AV) → List Asn → Prop) → List Asn → Prop
  | [], K, Hs => K [] Hs
  | ⟨⟨_, _, .new cells⟩, _, _⟩ :: l, K, Hs => ∀ b, Hoist l (fun ids Hs' => K ((b, cells) :: ids) Hs') (Hs ++ [pts b ⟨cells, .own⟩])
  | _ :: l, K, Hs => Hoist l (fun ids Hs' => K ((0, []) :: ids) Hs') Hs

theorem hoist_ok : ∀ (l : List DOp) (K : List (Nat × List AV) → List Asn → Prop) (Hs : List Asn) (h : Hp) (D : List Nat), Hoist l K Hs → Own A Hs h D → ∃ Hs' D', Own A Hs' (hoist false l (guess0 l) h).2 D' ∧ Mv A D h A D' (hoist false l (guess0 l) h).2 ∧ K (hoist false l (guess0 l) h).1 Hs'
  | [], K, Hs, h, D, k, s => ⟨Hs, D, s, Mv.refl _ _ _, k⟩
  | ⟨⟨dst, g, o⟩, lo, hi⟩ :: l, K, Hs, h, D, k, s => by
    by_cases hn : ∃ cells, o = .new cells
    · obtain ⟨cells, rfl⟩ := hn
      obtain ⟨Hs', D', q1, q2, q3⟩ := hoist_ok l _ _ _ _ (k h.next) (s.new ⟨cells, .own⟩).1
      exact ⟨Hs', D', q1, (s.new ⟨cells, .own⟩).2.trans q2, q3⟩
    · have hk : Hoist l (fun ids Hs' => K ((0, []) :: ids) Hs') Hs := by
        cases o <;> first | exact k | exact absurd ⟨_, rfl⟩ hn
      obtain ⟨Hs', D', q1, q2, q3⟩ := hoist_ok l _ _ _ _ hk s
      have hc : ¬ O.cls false o = .new := by
        cases o <;> first | exact absurd ⟨_, rfl⟩ hn | (intro e; cases e)
      have he : hoist false (⟨⟨dst, g, o⟩, lo, hi⟩ :: l) (guess0 (⟨⟨dst, g, o⟩, lo, hi⟩ :: l)) h = ((0, []) :: (hoist false l (guess0 l) h).1, (hoist false l (guess0 l) h).2) := by
        simp only [hoist, guess0, if_neg hc, List.tail_cons]
      rw [he]
      exact ⟨Hs', D', q1, q2, q3⟩

theorem WP.dreg (h : Hoist l (fun ids Hs' => WD F l ids L [(A, Hs')] [] A Hs' fun L' A2 Hs2 => Q .normal L' A2 Hs2) Hs) : WP F (.dreg false l) L A Hs Q := .mk fun fr hp D p1 p2 => by
  obtain ⟨Hs1, D1, q1, q2, q3⟩ := hoist_ok l _ _ _ _ h p2
  obtain ⟨fr', h', hs', rs', L', A', Hs', D', ⟨N, e⟩, t1, t2, t3, t4, t5, t6⟩ := q3.run fr _ D1 [(hoist false l (guess0 l) hp).2] p1 q1 (DI.one q1) rfl
  refine ⟨.normal, fr', h', L', A', Hs', D', ⟨N, fun n hn => ?_⟩, t3, t4, q2.trans t5, t6⟩
  simp only [evalS, evalDreg, cond_false, e n hn, t1, if_true, t2, Option.map_some]
end

/-! ### Slices that grow -/
theorem sl_nil (h : Hp) (e : Nat) : (sl none (.known 0) e 0 []).p [] h := .inl ⟨rfl, rfl, rfl, rfl, rfl⟩
/-- A slice that is nil, had. -/
theorem Ent.nil (e : Nat) : Ent A Hs A (Hs ++ [sl none (.known 0) e 0 []]) := fun h D s =>
  ⟨D, ⟨by have := s.sat.append (.cons (sl_nil h e) .nil); simpa using this, s.nd, s.lt, s.per⟩, Mv.refl _ _ _⟩
theorem slb_sl {b : Nat} {cap : Cap} {e n : Nat} {cs : List AV} (D : List Nat) (h : Hp) (hp : (slb b cap e n cs).p D h) : (sl (some (b, 0)) cap e n cs).p D h := .inr ⟨b, rfl, hp⟩
theorem pts_sl {b e n : Nat} {cs : List AV} (h1 : cs.length = n * e) (h2 : cs.all AV.one = true) (h3 : 0 < n) (D : List Nat) (h : Hp) (hp : (pts b ⟨cs, .own⟩).p D h) : (sl (some (b, 0)) (.known n) e n cs).p D h :=
  slb_sl D h ⟨hp.1, h1, h2, [], .own, by rw [List.append_nil]; exact hp.2, .inl ⟨n, rfl, rfl, by simp [h1], h3⟩⟩

theorem WP.open {s : S} {p : Option (Nat × Nat)} {cap : Cap} {e n : Nat} {cs : List AV} (i : Nat) (hi : Hs[i]? = some (sl p cap e n cs)) (hn : 0 < n) (h : ∀ b, p = some (b, 0) → cs.length = n * e → WP F s L A (Hs.set i (slb b cap e n cs)) Q) : WP F s L A Hs Q := .mk fun fr hp D p1 p2 => by
  obtain ⟨DL, D1, DR, rfl, r1, _, r3⟩ := p2.sat.at hi
  rcases r1 with ⟨_, _, e0, _⟩ | ⟨b, e1, e2⟩
  · omega
  · exact (h b e1 e2.2.1).run fr hp _ p1 ⟨r3 e2 fun _ _ => rfl, p2.nd, p2.lt, p2.per⟩
/-- What is known of a slice. -/
theorem WP.slen {s : S} {p : Option (Nat × Nat)} {cap : Cap} {e n : Nat} {cs : List AV} (i : Nat) (hi : Hs[i]? = some (sl p cap e n cs)) (h : cs.length = n * e → WP F s L A Hs Q) : WP F s L A Hs Q := .mk fun fr hp D p1 p2 => by
  obtain ⟨DL, D1, DR, rfl, r1, _, r3⟩ := p2.sat.at hi
  refine (h ?_).run fr hp _ p1 p2
  rcases r1 with ⟨_, _, e0, e1, _⟩ | ⟨b, e1, e2⟩
  · rw [e0, e1]; simp
  · exact e2.2.1

theorem Own.slb {h : Hp} {D : List Nat} {b : Nat} {cap : Cap} {e n : Nat} {cs : List AV} (s : Own A Hs h D) (i : Nat) (hi : Hs[i]? = some (Asn.slb b cap e n cs)) : ∃ rest kind, h.get b = some ⟨cs ++ rest, kind⟩ ∧ kind.hid = false ∧ kind ≠ .ro := by
  obtain ⟨DL, D1, DR, rfl, ⟨_, _, _, rest, kind, p1, p2⟩, _⟩ := s.sat.at hi
  refine ⟨rest, kind, p1, ?_, ?_⟩ <;> rcases p2 with ⟨c, _, rfl, _⟩ | ⟨_, rfl⟩ <;> first | rfl | simp
theorem Rd.slb {b o : Nat} {cap : Cap} {e n : Nat} {cs : List AV} {v : AV} (i : Nat) (hi : Hs[i]? = some (Asn.slb b cap e n cs)) (hv : cs[o]? = some v) : Rd A Hs (b, o) v := fun h D s => by
  obtain ⟨rest, kind, h1, h2, _⟩ := s.slb i hi
  rw [Hp.cell_at h1 h2]
  have : o < cs.length := by
    rcases Nat.lt_or_ge o cs.length with hh | hh
    · exact hh
    · rw [List.getElem?_eq_none hh] at hv; cases hv
  rw [List.getElem?_append_left this, hv]
theorem Rds.slb {b o k : Nat} {cap : Cap} {e n : Nat} {cs vs : List AV} (i : Nat) (hi : Hs[i]? = some (Asn.slb b cap e n cs)) (hle : o + k ≤ cs.length) (hv : (cs.drop o).take k = vs) : Rds A Hs (b, o) k vs := fun h D s => by
  obtain ⟨rest, kind, h1, h2, _⟩ := s.slb i hi
  rw [Hp.cells_at h1 h2 (by simp; omega), List.drop_append_of_le_length (by omega), List.take_append_of_le_length (by simp; omega), hv]

theorem splice_app : ∀ (vs l r : List AV) (o : Nat), o + vs.length ≤ l.length → splice (l ++ r) o vs = splice l o vs ++ r
  | [], l, r, o, h => rfl
  | v :: vs, l, r, o, h => by
    simp only [List.length_cons] at h
    simp only [splice]
    rw [List.set_append_left _ _ (by omega), splice_app vs (l.set o v) r (o + 1) (by simp; omega)]
theorem splice_all_one : ∀ (vs l : List AV) (o : Nat), vs.all AV.one = true → l.all AV.one = true → (splice l o vs).all AV.one = true
  | [], l, o, _, h => h
  | v :: vs, l, o, h1, h2 => by
    simp only [List.all_cons, Bool.and_eq_true] at h1
    simp only [splice]
    refine splice_all_one vs _ _ h1.2 (List.all_eq_true.2 fun x hx => ?_)
    rcases List.mem_or_eq_of_mem_set hx with e | e
    · exact List.all_eq_true.1 h2 x e
    · rw [e]; exact h1.1

theorem Wr.slb {b o : Nat} {cap : Cap} {e n : Nat} {cs vs : List AV} (i : Nat) (hi : Hs[i]? = some (Asn.slb b cap e n cs)) (hle : o + vs.length ≤ cs.length) (h1 : vs.all AV.one = true) : Wr A Hs (b, o) vs (Hs.set i (Asn.slb b cap e n (splice cs o vs))) := fun h D s => by
  obtain ⟨DL, D1, DR, rfl, ⟨rfl, q1, q2, rest, kind, p1, p2⟩, _, p3⟩ := s.sat.at hi
  obtain ⟨n1, n2, n3⟩ := nodup_mid.1 s.nd
  have hb : b ∈ DL ++ ([b] ++ DR) := mem_mid.2 (.inl (by simp))
  have hk : kind.hid = false ∧ kind ≠ .ro := by
    refine ⟨?_, ?_⟩ <;> rcases p2 with ⟨c, _, rfl, _⟩ | ⟨_, rfl⟩ <;> first | rfl | simp
  have hw := Hp.write_at (i := o) (vs := vs) p1 hk.1 hk.2 (by simp; omega) h1
  rw [splice_app _ _ _ _ hle] at hw
  have hne : ∀ d, d ≠ b → (h.put b ⟨splice cs o vs ++ rest, kind⟩).get d = h.get d := fun d hd => by rw [Hp.get_put, if_neg hd]
  refine ⟨_, hw, ⟨p3 ⟨rfl, by rw [splice_length', q1], splice_all_one _ _ _ h1 q2, rest, kind, by rw [Hp.get_put, if_pos rfl], by rw [splice_length']; exact p2⟩ fun d hd => hne d (fun e => n3 b (by simp) (e ▸ hd)), s.nd, s.lt, fun p hp => ⟨?_, (s.per p hp).2.1, (s.per p hp).2.2⟩⟩, Nat.le_refl _, fun c _ hc => hne c (fun e => hc (e ▸ hb)), fun d hd => .inl hd, fun _ hp => hp, fun _ hp => .inl hp⟩
  rw [hne _ (fun e => (s.per p hp).2.1 (by rw [e]; exact hb))]
  exact (s.per p hp).1

/-- What is put behind a slice. -/
def Src (A : Per) (Hs : List Asn) (y : AV) (k e : Nat) (more : List AV) : Prop := ∀ h D, Own A Hs h D → lenOfA y = some k ∧ firstA h e k y = some more ∧ more.all AV.one = true ∧ more.length = k * e
theorem Src.pts {b e k : Nat} {more : List AV} {kd : BK} {cap : Cap} (j : Nat) (hj : Hs[j]? = some (Asn.pts b ⟨more, kd⟩)) (hk : kd.hid = false) (h1 : more.all AV.one = true) (h2 : more.length = k * e) : Src A Hs (.slice (some (b, 0)) k cap) k e more := fun h D s =>
  ⟨rfl, by simp only [firstA]; rw [Hp.cells_at (s.pts j hj) hk (by omega), List.drop_zero, List.take_of_length_le (by omega)], h1, h2⟩
theorem Src.sl {p : Option (Nat × Nat)} {e k : Nat} {more : List AV} {cap : Cap} (j : Nat) (hj : Hs[j]? = some (Asn.sl p cap e k more)) : Src A Hs (.slice p k cap) k e more := fun h D s => by
  obtain ⟨DL, D1, DR, rfl, r1, _, _⟩ := s.sat.at hj
  rcases r1 with ⟨rfl, _, rfl, rfl, _⟩ | ⟨b, rfl, rfl, q1, q2, rest, kind, p1, p2⟩
  · exact ⟨rfl, rfl, rfl, by simp⟩
  · have hk : kind.hid = false := by rcases p2 with ⟨c, _, rfl, _⟩ | ⟨_, rfl⟩ <;> rfl
    exact ⟨rfl, by simp only [firstA]; rw [Hp.cells_at p1 hk (by simp; omega), List.drop_zero, List.take_append_of_le_length (by omega), List.take_of_length_le (by omega)], q2, q1⟩

theorem OpOk.append {x y : Opd} {yv : AV} {p : Option (Nat × Nat)} {cap : Cap} {e n k bytes : Nat} {cs more : List AV} {K : AV → Per → List Asn → Prop} (i : Nat) (h1 : opdE L x = some (.slice p n cap)) (hi : Hs[i]? = some (sl p cap e n cs)) (h2 : opdE L y = some yv) (hy : Src A Hs yv k e more)
    (hb : (n + k) * bytes ≤ maxLenB ∧ n + k ≤ maxLenB) (kk : ∀ p' cap', K (.slice p' (n + k) cap') A (Hs.set i (sl p' cap' e (n + k) (cs ++ more)))) : OpOk F (.append e bytes x y) L A Hs K := .mk fun fr h D hf s => by
  obtain ⟨y1, y2, y3, y4⟩ := hy h D s
  obtain ⟨DL, D1, DR, rfl, r1, _, r3⟩ := s.sat.at hi
  -- what the memory gives
  have fin : ∀ (v : AV) (h' : Hp) (p' : Option (Nat × Nat)) (cap' : Cap) (D1' : List Nat), appendA h e bytes (.slice p n cap) yv = some (v, h') → v = .slice p' (n + k) cap' → (sl p' cap' e (n + k) (cs ++ more)).p D1' h' → h.next ≤ h'.next → (∀ c, c < h.next → c ∉ D1 → h'.get c = h.get c) → (∀ d ∈ D1', d ∈ D1 ∨ h.next ≤ d) → D1'.Nodup → (∀ d ∈ D1', d < h'.next) →
      ∃ v h' A' Hs' D', (∃ N, ∀ n, N ≤ n → evalOp (evalT F n) fr h (.append e bytes x y) = some (v, h')) ∧ Own A' Hs' h' D' ∧ Mv A (DL ++ (D1 ++ DR)) h A' D' h' ∧ K v A' Hs' := by
    rintro v h' p' cap' D1' e1 rfl e2 e3 e4 e5 e6 e7
    have m : Mv A D1 h A D1' h' := ⟨e3, e4, e5, fun _ hp => hp, fun _ hp => .inl hp⟩
    have s1 : Own A [sl p' cap' e (n + k) (cs ++ more)] h' D1' := by
      refine ⟨by have := Sat.cons e2 (Sat.nil (h := h')); simpa using this, e6, e7, fun p hp => ?_⟩
      obtain ⟨p1, p2, p3⟩ := s.per p hp
      have p2' : p.1 ∉ D1 := fun hh => p2 (mem_mid.2 (.inl hh))
      refine ⟨by rw [e4 _ p3 p2']; exact p1, fun hh => ?_, by omega⟩
      rcases e5 _ hh with q | q
      · exact p2' q
      · omega
    obtain ⟨q1, q2⟩ := s.part (H1 := Hs.set i (sl p' cap' e (n + k) (cs ++ more))) m s1 (fun hd => r3 e2 hd)
    exact ⟨_, h', A, _, _, ⟨0, fun n _ => by simp only [evalOp, evalO, opd_of hf h1, opd_of hf h2, e1]; rfl⟩, q1, q2, kk p' cap'⟩
  by_cases hk0 : k = 0
  · subst hk0
    have hm : more = [] := List.eq_nil_of_length_eq_zero (by omega)
    subst hm
    have hn1 : D1.Nodup := (nodup_mid.1 s.nd).1
    refine fin _ h p cap D1 (by simp only [appendA, y1]; rfl) rfl (by simpa using r1) (Nat.le_refl _) (fun _ _ _ => rfl) (fun d hd => .inl hd) hn1 (fun d hd => s.lt d (mem_mid.2 (.inl hd)))
  · have new : ∀ (h0 : Hp), (∀ d, d < h.next → d ∉ D1 → h0.get d = h.get d) → h0.next = h.next → cs.length = n * e → cs.all AV.one = true → appendA h e bytes (.slice p n cap) yv = some (.slice (some (h.next, 0)) (n + k) (.more e), h0.new ⟨cs ++ more, .grown e⟩) →
        ∃ v h' A' Hs' D', (∃ N, ∀ n, N ≤ n → evalOp (evalT F n) fr h (.append e bytes x y) = some (v, h')) ∧ Own A' Hs' h' D' ∧ Mv A (DL ++ (D1 ++ DR)) h A' D' h' ∧ K v A' Hs' := by
      intro h0 g1 g2 g3 g4 e1
      refine fin _ (h0.new ⟨cs ++ more, .grown e⟩) (some (h.next, 0)) (.more e) [h.next] e1 rfl (.inr ⟨h.next, rfl, rfl, by rw [List.length_append, g3, y4, Nat.add_mul], by rw [List.all_append, g4, y3]; rfl, [], .grown e, by rw [← g2, Hp.get_new, if_pos rfl, List.append_nil], .inr ⟨rfl, rfl⟩⟩) (by simp [g2]) (fun c hc hd => ?_) (fun d hd => .inr (by simp at hd; omega)) (by simp) (fun d hd => by simp at hd; simp [g2]; omega)
      rw [Hp.get_new, if_neg (by omega)]; exact g1 c hc hd
    rcases r1 with ⟨rfl, rfl, rfl, rfl, rfl⟩ | ⟨b, rfl, rfl, q1, q2, rest, kind, p1, p2⟩
    · refine new h (fun _ _ _ => rfl) rfl (by simp) rfl ?_
      have hold : firstA h e 0 (.slice none 0 (.known 0)) = some [] := rfl
      simp only [appendA, y1, if_neg hk0, if_pos hb, hold, y2]
      rw [if_pos ⟨y3, y4, by simp⟩]
      simp only [growA]
      rw [if_neg (by omega)]
    · have hkh : kind.hid = false := by rcases p2 with ⟨c, _, rfl, _⟩ | ⟨_, rfl⟩ <;> rfl
      have hold : firstA h e n (.slice (some (b, 0)) n cap) = some cs := by
        simp only [firstA]
        rw [Hp.cells_at p1 hkh (by simp; omega), List.drop_zero, List.take_append_of_le_length (by omega), List.take_of_length_le (by omega)]
      have pre : appendA h e bytes (.slice (some (b, 0)) n cap) yv = growA h e n k (some (b, 0)) cap cs more := by
        simp only [appendA, y1, if_neg hk0, if_pos hb, hold, y2]
        rw [if_pos ⟨y3, y4, q1⟩]
      rcases p2 with ⟨c, rfl, rfl, p3, p4⟩ | ⟨rfl, rfl⟩
      · by_cases hc : n + k ≤ c
        · have hle : n * e + k * e ≤ cs.length + rest.length := by
            rw [← p3, ← Nat.add_mul]; exact Nat.mul_le_mul_right e hc
          have hw := Hp.write_at (i := 0 + n * e) (vs := more) p1 rfl (by simp) (by simp; omega) y3
          have hs : splice (cs ++ rest) (0 + n * e) more = (cs ++ more) ++ rest.drop (k * e) := by
            apply List.ext_getElem?
            intro j
            rw [splice_get _ _ _ _ (by simp; omega)]
            by_cases h3 : j < cs.length
            · rw [if_neg (by omega), List.getElem?_append_left h3, List.append_assoc, List.getElem?_append_left h3]
            · by_cases h4 : j < n * e + k * e
              · rw [if_pos ⟨by omega, by omega⟩, List.getElem?_append_left (l₁ := cs ++ more) (by simp; omega), List.getElem?_append_right (by omega)]
                congr 1; omega
              · rw [if_neg (by omega), List.getElem?_append_right (by omega), List.getElem?_append_right (l₁ := cs ++ more) (by simp; omega), List.getElem?_drop]
                congr 1; simp; omega
          rw [hs] at hw
          refine fin (.slice (some (b, 0)) (n + k) (.known c)) (h.put b ⟨cs ++ more ++ rest.drop (k * e), .own⟩) (some (b, 0)) (.known c) [b] ?_ rfl (.inr ⟨b, rfl, rfl, by rw [List.length_append, q1, y4, Nat.add_mul], by rw [List.all_append, q2, y3]; rfl, rest.drop (k * e), .own, by rw [Hp.get_put, if_pos rfl], .inl ⟨c, rfl, rfl, by simp; omega, p4⟩⟩) (by simp) (fun c' _ hd => by rw [Hp.get_put, if_neg (by simpa using hd)]) (fun d hd => .inl hd) (by simp) (fun d hd => by
            simp only [Hp.next_put]; exact s.lt d (mem_mid.2 (.inl hd)))
          rw [pre]
          simp only [growA, if_pos hc, hw]
        · refine new h (fun _ _ _ => rfl) rfl q1 q2 ?_
          rw [pre]
          simp only [growA, if_neg hc]
      · refine new (h.kill b) (fun d _ hd => by rw [Hp.get_kill, if_neg (by simpa using hd)]) rfl q1 q2 ?_
        rw [pre]
        simp only [growA, p1]
        rw [if_pos (by refine ⟨?_, ?_⟩ <;> first | rfl | trivial)]

end Go.Lite.Sep
