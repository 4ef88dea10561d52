/-
  The arena, by what is owned: a place is given back. Own work of this session.
-/
import Derived.Test.YtchffjnmkpedkaaMc
set_option linter.unusedSectionVars false
set_option linter.unusedSimpArgs false
set_option linter.unusedVariables false
namespace Go.Proofs.Ytchffjnmkpedkaa
set_option linter.unusedSectionVars false
set_option linter.unusedSimpArgs false
set_option linter.unusedVariables false
open Go.Lite Go.RowKit Go.Lite.Arena Go.Lite.Sep Go.Lite.Sep.Asn
set_option maxHeartbeats 400000
set_option maxRecDepth 10000

section
variable {A : Per} {Hs : List Asn} {a : Nat} {most : Int} {S : St} {p1 p2 : Option (Nat × Nat)} {c1 c2 : Cap}

theorem cmp_d (x y : Int) (hx : -1000000 < x ∧ x < 1000000) (hy : -1000000 < y ∧ y < 1000000) : Does F2 60 [.int .i64 x, .int .i64 y] A [] fun v A' H' => v = .int .i64 (y - x) ∧ A' = A ∧ H' = [] := by
  refine Does.fn F2_cmp ?_
  have w1 : IntKind.i64.wrap (y - x) = y - x := by
    simp only [IntKind.wrap, IntKind.signed, IntKind.bits]
    simp
    omega
  have h1 : binA .sub (.int .i64 y) (.int .i64 x) = some (.int .i64 (y - x)) := by simp only [binA, binInt, if_true, w1]
  refine go ?_
  exact retQ_r rfl (Ent.refl _ _) ⟨rfl, rfl, rfl⟩

theorem bs_d {p : Option (Nat × Nat)} {c : Cap} {free : List Int} {id : Int} (hs : free.Pairwise (· > ·)) (hb : ∀ x ∈ free, 0 < x ∧ x < 1000000) (hid : 0 < id ∧ id < 1000000) (hlen : free.length < 1000000) :
    Does F2 59 [.slice p free.length c, .int .i64 id, .func 60 [] []] A [sl p c 1 free.length (free.map (AV.int .i64))] fun v A' H' => A' = A ∧ H' = [sl p c 1 free.length (free.map (AV.int .i64))] ∧ ∃ (k : Nat) (found : Bool), v = .tuple [.int .i64 k, .bool found] ∧ Spot free id k := by
  refine Does.fn F2_bs ?_
  have cell : ∀ {j : Nat} {x : Int} {z : Int}, free[j]? = some x → z = j → (free.map (AV.int .i64))[0 + z.toNat * 1]? = some (.int .i64 x) := fun {j x z} hj hz => by subst hz; simp [hj]
  refine go ?_
  refine WP.loop (σ := Nat × Nat) (fun s => s.2 - s.1) (fun s => [(0, .slice p free.length c), (1, .int .i64 id), (2, .func 60 [] []), (8, .int .i64 free.length), (9, .int .i64 s.1), (10, .int .i64 s.2)]) (fun _ => [sl p c 1 free.length (free.map (AV.int .i64))])
    (fun s A' => A' = A ∧ s.1 ≤ s.2 ∧ s.2 ≤ free.length ∧ (∀ j x, j < s.1 → free[j]? = some x → id < x) ∧ ∀ j x, s.2 ≤ j → free[j]? = some x → x ≤ id) (0, free.length) LeE.go (Ent.refl _ _) ⟨rfl, by omega, by omega, fun j x hj _ => by omega, fun j x hj hx => by rw [List.getElem?_eq_none hj] at hx; cases hx⟩ ?_
  rintro ⟨lo, hi⟩ A1 ⟨rfl, h1, h2, hlo, hup⟩
  simp only at h1 h2 hlo hup ⊢
  unfold s59_l0
  refine go ?_
  refine WP.cond rfl (fun hc => ?_) (fun hc => ?_)
  · have hlt : lo < hi := by simp at hc; omega
    obtain ⟨mid, hmid⟩ : ∃ mid, mid = (lo + hi) / 2 := ⟨_, rfl⟩
    have hx := List.getElem?_eq_getElem (l := free) (i := mid) (by omega)
    generalize hxv : free[mid]'(by omega) = x at hx
    have hxb := hb x (by rw [← hxv]; exact List.getElem_mem (by omega))
    have w2 : IntKind.u64.wrap ((lo : Int) + (hi : Int)) = (lo : Int) + (hi : Int) := by
      simp only [IntKind.wrap, IntKind.signed, IntKind.bits]
      simp
      omega
    have sh : binA .shr (.int .u64 ((lo : Int) + (hi : Int))) (.int .u64 1) = some (.int .u64 (mid : Int)) := by
      simp only [binA, shiftA]
      have : ((lo : Int) + (hi : Int)).fdiv (2 ^ (min (Int.toNat 1) IntKind.u64.bits)) = (mid : Int) := by
        simp only [IntKind.bits]
        rw [show (min (Int.toNat 1) 64) = 1 from rfl, Int.fdiv_eq_ediv_of_nonneg _ (by omega)]
        omega
      rw [if_neg (by omega), this]
    refine WP.open 0 rfl (by omega) fun b hb1 hln => ?_
    subst hb1
    have hcell := cell hx rfl
    refine go ?_
    refine WP.opd (OpOk.call0 rfl rfl (cmp_d x id (by omega) (by omega)) ?_)
    rintro v A2 H2 - ⟨rfl, rfl, rfl⟩
    by_cases hgt : id < x
    · refine go ?_
      refine loopQ_n (mid + 1, hi) (by simp; omega) LeE.go (Ent.at 0 rfl slb_sl) ⟨rfl, by simp; omega, h2, fun j y hj hy => ?_, hup⟩
      rcases Nat.lt_or_ge j mid with hh | hh
      · have := desc hs hh hy hx; omega
      · have : j = mid := by simp at hj; omega
        subst this; rw [hx] at hy; cases hy; exact hgt
    · refine go ?_
      refine loopQ_n (lo, mid) (by simp; omega) LeE.go (Ent.at 0 rfl slb_sl) ⟨rfl, by simp; omega, by simp; omega, hlo, fun j y hj hy => ?_⟩
      rcases Nat.lt_or_ge mid j with hh | hh
      · have := desc hs hh hx hy; omega
      · have : j = mid := by simp at hj; omega
        subst this; rw [hx] at hy; cases hy; omega
  · have : lo = hi := by simp at hc; omega
    subst this
    by_cases hll : lo < free.length
    · have hx := List.getElem?_eq_getElem (l := free) (i := lo) hll
      generalize hxv : free[lo]'hll = x at hx
      have hxb := hb x (by rw [← hxv]; exact List.getElem_mem (by omega))
      refine WP.open 0 rfl (by omega) fun b hb1 hln => ?_
      subst hb1
      have hcell := cell hx rfl
      refine go ?_
      refine WP.opd (OpOk.call0 rfl rfl (cmp_d x id (by omega) (by omega)) ?_)
      rintro v A2 H2 - ⟨rfl, rfl, rfl⟩
      refine go ?_
      exact retQ_r rfl (Ent.at 0 rfl slb_sl) ⟨rfl, rfl, lo, _, rfl, by omega, hlo, hup⟩
    · refine go ?_
      exact retQ_r rfl (Ent.refl _ _) ⟨rfl, rfl, lo, _, rfl, by omega, hlo, hup⟩

/-- 'slices.Insert' of one number, as what is owned has it. -/
theorem ins_d {p : Option (Nat × Nat)} {c : Cap} {l : List Int} {i b : Nat} {x : Int} (hc : CapF c) (hi : i ≤ l.length) (hlen : l.length < 1000000) :
    Does F2 61 [.slice p l.length c, .int .i64 (i : Int), .slice (some (b, 0)) 1 (.known 1)] A [sl p c 1 l.length (l.map (AV.int .i64)), pts b ⟨[.int .i64 x], .own⟩] fun v A' H' => A' = A ∧ ∃ p', v = .slice p' (l.length + 1) (.more 1) ∧ H' = [sl p' (.more 1) 1 (l.length + 1) ((l.take i ++ [x] ++ l.drop i).map (AV.int .i64))] := by
  refine Does.prim F2_ins fun h D s => ?_
  obtain ⟨DL, D1, DR, hD, ⟨rfl, hb⟩, s2, _⟩ := s.sat.at (i := 1) rfl
  obtain ⟨E1, E2, hE, s3, s4⟩ : ∃ E1 E2, DL ++ DR = E1 ++ E2 ∧ (sl p c 1 l.length (l.map (AV.int .i64))).p E1 h ∧ E2 = [] := by
    generalize DL ++ DR = E at s2
    cases s2 with
    | cons hp s2 => cases s2; exact ⟨_, [], rfl, hp, rfl⟩
  subst s4
  have hblt : b < h.next := s.lt b (by rw [hD]; simp)
  have hbE : b ∉ E1 := fun hh => by
    have := s.nd
    rw [hD] at this
    have := (nodup_mid.1 this).2.2 b (by simp)
    rw [hE] at this
    exact this (by simpa using hh)
  have hq : h.cells (b, 0) (1 * 1) = some [.int .i64 x] := by rw [Hp.cells_at hb rfl (by simp)]; rfl
  have fin : ∀ (h' : Hp), insertA 8 [.slice p l.length c, .int .i64 (i : Int), .slice (some (b, 0)) 1 (.known 1)] h = some (.slice (some (h.next, 0)) (l.length + 1) (.more 1), h') → h'.next = h.next + 1 → h'.get h.next = some ⟨(l.take i ++ [x] ++ l.drop i).map (AV.int .i64), .grown 1⟩ → (∀ d, d < h.next → d ∉ D → h'.get d = h.get d) →
      ∃ v h' A' Hs' D', insertA 8 [.slice p l.length c, .int .i64 (i : Int), .slice (some (b, 0)) 1 (.known 1)] h = some (v, h') ∧ Own A' Hs' h' D' ∧ Mv A D h A' D' h' ∧ A' = A ∧ ∃ p', v = .slice p' (l.length + 1) (.more 1) ∧ Hs' = [sl p' (.more 1) 1 (l.length + 1) ((l.take i ++ [x] ++ l.drop i).map (AV.int .i64))] := by
    intro h' e1 e2 e3 e4
    refine ⟨_, h', A, _, [h.next], e1, ⟨?_, by simp, by simp [e2], fun q hq => ?_⟩, ⟨by omega, e4, fun d hd => .inr (by simp at hd; omega), fun _ hp => hp, fun _ hp => .inl hp⟩, rfl, some (h.next, 0), rfl, rfl⟩
    · have : (sl (some (h.next, 0)) (.more 1) 1 (l.length + 1) ((l.take i ++ [x] ++ l.drop i).map (AV.int .i64))).p [h.next] h' := .inr ⟨h.next, rfl, rfl, by simp; omega, all_one_ints _, [], .grown 1, by rw [List.append_nil]; exact e3, .inr ⟨rfl, rfl⟩⟩
      simpa using Sat.cons this (Sat.nil (h := h'))
    · obtain ⟨q1, q2, q3⟩ := s.per q hq
      refine ⟨by rw [e4 _ q3 q2]; exact q1, by simp; omega, by omega⟩
  rcases s3 with ⟨rfl, rfl, e3, e4, rfl⟩ | ⟨f, rfl, rfl, q1, q2, rest, kind, q3, q4⟩
  · have hl : l = [] := by simpa using e4
    subst hl
    obtain rfl : i = 0 := by simpa using hi
    refine fin (h.new ⟨[.int .i64 x], .grown 1⟩) ?_ rfl (by rw [Hp.get_new, if_pos rfl]; rfl) (fun d hd _ => get_new_ne hd _)
    simp only [insertA, firstA, hq, hb]
    rw [if_pos (by refine ⟨by omega, by simp, by omega, by simp [maxLenB], by simp⟩), if_pos (by refine ⟨?_, ?_, ?_⟩ <;> first | rfl | trivial), if_pos (by refine ⟨?_, ?_⟩ <;> first | rfl | trivial)]
    rfl
  · obtain ⟨rfl, rfl⟩ : c = .more 1 ∧ kind = .grown 1 := by
      rcases q4 with ⟨c', rfl, _, _, hc'⟩ | ⟨h1, h2⟩
      · rcases hc with h | h
        · cases h; omega
        · cases h
      · exact ⟨h1, h2⟩
    have hbf : b ≠ f := fun e => hbE (by rw [e]; simp)
    have hold : h.cells (f, 0) (l.length * 1) = some (l.map (AV.int .i64)) := by
      rw [Hp.cells_at q3 rfl (by simp), List.drop_zero, List.take_append_of_le_length (by simp), List.take_of_length_le (by simp)]
    have hfD : f ∈ D := by
      rw [hD]
      exact mem_mid.2 (.inr (by rw [hE]; simp))
    refine fin ((h.kill f).new ⟨(l.map (AV.int .i64)).take i ++ [.int .i64 x] ++ (l.map (AV.int .i64)).drop i, .grown 1⟩) ?_ rfl (by rw [show h.next = (h.kill f).next from rfl, Hp.get_new, if_pos rfl]; simp [List.map_take, List.map_drop]) (fun d hd hdD => ?_)
    · simp only [insertA, firstA, hold, hq, hb]
      rw [if_pos (by refine ⟨by omega, by omega, by omega, by simp [maxLenB]; omega, by omega⟩), if_pos (by refine ⟨rfl, all_one_ints _, ?_⟩ <;> first | rfl | trivial)]
      simp only [q3]
      rw [if_pos (by refine ⟨?_, ?_, ?_⟩ <;> first | rfl | trivial | exact hbf)]
      simp
    · rw [Hp.get_new, if_neg (by simp; omega), Hp.get_kill, if_neg (fun e => hdD (by rw [e]; exact hfD))]

/-- A number is free. -/
theorem gone_d {fl : List Int} {c2 : Cap} {lw : AV} {id : Int} (hc : CapF c2) (hs : fl.Pairwise (· > ·)) (hb : ∀ x ∈ fl, 0 < x ∧ x < 1000000) (hid : 0 < id ∧ id < 1000000) (hlen : fl.length < 1000000) :
    Does F2 51 [.ptr (some (a, 0)), .int .i64 id] A [pts a ⟨[.int .i64 most, lw, .slice p2 fl.length c2], .own⟩, sl p2 c2 1 fl.length (fl.map (AV.int .i64))] fun v A' H' => A' = A ∧ v = .tuple [] ∧ ∃ k p', Spot fl id k ∧ H' = [pts a ⟨[.int .i64 most, lw, .slice p' (fl.length + 1) (.more 1)], .own⟩, sl p' (.more 1) 1 (fl.length + 1) ((fl.take k ++ [id] ++ fl.drop k).map (AV.int .i64))] := by
  refine Does.fn F2_gone ?_
  refine go ?_
  refine WP.opd (OpOk.call1s (Q1 := fun v A' P' => A' = A ∧ P' = sl p2 c2 1 fl.length (fl.map (AV.int .i64)) ∧ ∃ (k : Nat) (found : Bool), v = .tuple [.int .i64 k, .bool found] ∧ Spot fl id k) rfl rfl 1 rfl (Does.mono (bs_d hs hb hid hlen) fun v A' H' hq => ⟨_, hq.2.1, hq.1, rfl, hq.2.2⟩) ?_)
  rintro v A1 P1 - ⟨rfl, rfl, k, found, rfl, hspot⟩
  refine go ?_
  apply WP.buildSlice (cs := [.int .i64 id]); exact rfl; exact rfl; intro b
  show WP _ _ _ _ ([pts a ⟨[.int .i64 most, lw, .slice p2 fl.length c2], .own⟩, sl p2 c2 1 fl.length (fl.map (AV.int .i64)), pts b ⟨[.int .i64 id], .own⟩]) _
  refine WP.ent (Ent.perm (Hs' := [sl p2 c2 1 fl.length (fl.map (AV.int .i64)), pts b ⟨[.int .i64 id], .own⟩] ++ [pts a ⟨[.int .i64 most, lw, .slice p2 fl.length c2], .own⟩]) (List.perm_append_comm (l₁ := [_]))) ?_
  refine WP.opd (OpOk.call rfl rfl (ins_d hc hspot.1 hlen) (R := [pts a ⟨[.int .i64 most, lw, .slice p2 fl.length c2], .own⟩]) rfl ?_)
  rintro v A2 H1 - ⟨rfl, p', rfl, rfl⟩
  refine go ?_
  apply WP.store; exact rfl; exact rfl; exact rfl; exact Wr.pts 1 rfl rfl (by simp) (by simp [AV.cells]) rfl
  refine go ?_
  exact retQ_n rfl (Ent.perm (.swap _ _ _)) ⟨rfl, rfl, k, p', hspot, rfl⟩
end
end Go.Proofs.Ytchffjnmkpedkaa
