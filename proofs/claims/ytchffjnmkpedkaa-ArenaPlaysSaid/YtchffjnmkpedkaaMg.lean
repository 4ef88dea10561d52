/-
  The arena's law: ArenaPlays, walked. Own work of this session.
-/
import Derived.Test.YtchffjnmkpedkaaMf
set_option linter.unusedSectionVars false
set_option linter.unusedSimpArgs false
set_option linter.unusedVariables false
namespace Go.Proofs.Ytchffjnmkpedkaa
set_option linter.unusedSectionVars false
set_option linter.unusedSimpArgs false
set_option linter.unusedVariables false
open Go.Lite Go.RowKit Go.Lite.Arena Go.Lite.Sep Go.Lite.Sep.Asn
set_option maxHeartbeats 800000
set_option maxRecDepth 10000

theorem F2_plays : F2 5 = some (.text s5) := rfl

/-- What Make, Keep and Drop come to. -/
def MakeR (S : St) (m : Nd) (most : Int) (v : AV) (T : St) : Prop :=
  (m.kids.all (kidOk S) = false ∧ v = .tuple [.int .i64 0, .int .i64 10] ∧ T = S) ∨
  (m.kids.all (kidOk S) = true ∧ most ≤ (S.length : Int) - (freeOf S).length ∧ v = .tuple [.int .i64 0, .int .i64 14] ∧ T = S) ∨
  (m.kids.all (kidOk S) = true ∧ ¬ most ≤ (S.length : Int) - (freeOf S).length ∧ ∃ id S1, NewAt S id m S1 ∧ v = .tuple [.int .i64 id, .int .i64 0] ∧ T = incs S1 m.kids)
def KeepR (S : St) (id : Int) (v : AV) (T : St) : Prop := (rf S id = 0 ∧ v = .int .i64 10 ∧ T = S) ∨ (rf S id ≠ 0 ∧ v = .int .i64 0 ∧ T = inc S id)
def DropR (S : St) (id : Int) (v : AV) (T : St) : Prop := (rf S id = 0 ∧ v = .int .i64 10 ∧ T = S) ∨ (rf S id ≠ 0 ∧ v = .int .i64 0 ∧ Runs [id] S T)

theorem MakeQ.r {S : St} {m : Nd} {H : St → Asn} {most : Int} {v : AV} {H' : List Asn} (h : MakeQ S m (fun S => [H S]) most v H') : ∃ T, H' = [H T] ∧ MakeR S m most v T := by
  rcases h with ⟨a, b, c⟩ | ⟨a, b, c, d⟩ | ⟨a, b, id, S1, c, d, e⟩
  · exact ⟨S, c, .inl ⟨a, b, rfl⟩⟩
  · exact ⟨S, d, .inr (.inl ⟨a, b, c, rfl⟩)⟩
  · exact ⟨_, e, .inr (.inr ⟨a, b, id, S1, c, d, rfl⟩)⟩

theorem NewAt.det {S S1 S2 : St} {m : Nd} {i j : Int} (h : NewAt S i m S1) (k : NewAt S j m S2) : i = j ∧ S1 = S2 := by
  rcases h with ⟨a, rfl, rfl⟩ | ⟨a, b, rfl⟩
  · rcases k with ⟨c, rfl, rfl⟩ | ⟨c, d, rfl⟩
    · exact ⟨rfl, rfl⟩
    · rw [a] at c; cases c
  · rcases k with ⟨c, rfl, rfl⟩ | ⟨c, d, rfl⟩
    · rw [c] at a; cases a
    · have := b j c
      have := d i a
      obtain rfl : i = j := by omega
      exact ⟨rfl, rfl⟩

theorem MakeR.det {S T U : St} {m : Nd} {most : Int} {v w : AV} (h : MakeR S m most v T) (k : MakeR S m most w U) : v = w ∧ T = U := by
  rcases h with ⟨a, rfl, rfl⟩ | ⟨a, b, rfl, rfl⟩ | ⟨a, b, id, S1, c, rfl, rfl⟩
  · rcases k with ⟨a', rfl, rfl⟩ | ⟨a', b', rfl, rfl⟩ | ⟨a', b', id', S1', c', rfl, rfl⟩
    · exact ⟨rfl, rfl⟩
    · rw [a] at a'; cases a'
    · rw [a] at a'; cases a'
  · rcases k with ⟨a', rfl, rfl⟩ | ⟨a', b', rfl, rfl⟩ | ⟨a', b', id', S1', c', rfl, rfl⟩
    · rw [a] at a'; cases a'
    · exact ⟨rfl, rfl⟩
    · exact absurd b b'
  · rcases k with ⟨a', rfl, rfl⟩ | ⟨a', b', rfl, rfl⟩ | ⟨a', b', id', S1', c', rfl, rfl⟩
    · rw [a] at a'; cases a'
    · exact absurd b' b
    · obtain ⟨rfl, rfl⟩ := NewAt.det c c'; exact ⟨rfl, rfl⟩
theorem MakeR.form {S T : St} {m : Nd} {most : Int} {v : AV} (h : MakeR S m most v T) : ∃ x e : Int, v = .tuple [.int .i64 x, .int .i64 e] := by
  rcases h with ⟨a, rfl, rfl⟩ | ⟨a, b, rfl, rfl⟩ | ⟨a, b, id, S1, c, rfl, rfl⟩ <;> exact ⟨_, _, rfl⟩
theorem MakeR.size {S T : St} {m : Nd} {most : Int} {v : AV} (h : MakeR S m most v T) : T.length ≤ S.length + 1 ∧ total T ≤ total S + 9 := by
  rcases h with ⟨a, rfl, rfl⟩ | ⟨a, b, rfl, rfl⟩ | ⟨a, b, id, S1, c, rfl, rfl⟩
  · omega
  · omega
  · obtain ⟨f1, f2, _⟩ := incs_facts S1 m.kids
    obtain ⟨g1, g2⟩ := new_total c
    have := m.hk
    omega
theorem KeepR.det {S T U : St} {id : Int} {v w : AV} (h : KeepR S id v T) (k : KeepR S id w U) : v = w ∧ T = U := by
  rcases h with ⟨a, rfl, rfl⟩ | ⟨a, rfl, rfl⟩ <;> rcases k with ⟨b, rfl, rfl⟩ | ⟨b, rfl, rfl⟩ <;> first | exact ⟨rfl, rfl⟩ | exact absurd a b | exact absurd b a
theorem KeepR.form {S T : St} {id : Int} {v : AV} (h : KeepR S id v T) : ∃ e : Int, v = .int .i64 e := by
  rcases h with ⟨a, rfl, rfl⟩ | ⟨a, rfl, rfl⟩ <;> exact ⟨_, rfl⟩
theorem KeepR.size {S T : St} {id : Int} {v : AV} (h : KeepR S id v T) : T.length = S.length ∧ total T ≤ total S + 1 := by
  rcases h with ⟨a, rfl, rfl⟩ | ⟨a, rfl, rfl⟩
  · exact ⟨rfl, by omega⟩
  · exact ⟨length_upd _ _ _, total_inc _ _⟩
theorem DropR.det {S T U : St} {id : Int} {v w : AV} (h : DropR S id v T) (k : DropR S id w U) : v = w ∧ T = U := by
  rcases h with ⟨a, rfl, rfl⟩ | ⟨a, rfl, a2⟩ <;> rcases k with ⟨b, rfl, rfl⟩ | ⟨b, rfl, b2⟩ <;> first | exact ⟨rfl, rfl⟩ | exact absurd a b | exact absurd b a | exact ⟨rfl, a2.det b2⟩
theorem DropR.form {S T : St} {id : Int} {v : AV} (h : DropR S id v T) : ∃ e : Int, v = .int .i64 e := by
  rcases h with ⟨a, rfl, rfl⟩ | ⟨a, rfl, _⟩ <;> exact ⟨_, rfl⟩
theorem DropR.size {S T : St} {id : Int} {v : AV} (h : DropR S id v T) : T.length = S.length ∧ total T ≤ total S := by
  rcases h with ⟨a, rfl, rfl⟩ | ⟨a, rfl, a2⟩
  · exact ⟨rfl, by omega⟩
  · exact ⟨a2.length, a2.total⟩

section
variable {A : Per} {Hs : List Asn} {a r : Nat} {most : Int} {S : St}

theorem known9_d : Does F2 20 [] A [] fun v A' H' => A' = A ∧ v = .bool true ∧ H' = [] :=
  Does.prim F2_known9 fun hp D s => ⟨_, hp, A, [], D, rfl, s, Mv.refl _ _ _, rfl, rfl, rfl⟩

theorem aMake_s (hlen : S.length + 1 < 1000000) (htot : total S + 10 < 1000000000) (nd : Nd) : Does F2 15 [.ptr (some (a, 0)), .agg (nodeC nd)] A [aA a most S] fun v A' H' => ∃ P, H' = [P] ∧ A' = A ∧ ∃ T, P = aA a most T ∧ MakeR S (norm nd) most v T :=
  (aMake hlen htot nd).mono fun v A' H' ⟨h1, h2⟩ => by
    obtain ⟨T, h3, h4⟩ := MakeQ.r (H := fun S => aA a most S) h2
    exact ⟨_, h3, h1, T, rfl, h4⟩
theorem rMake_s (hlen : S.length + 1 < 1000000) (htot : total S + 10 < 1000000000) (nd : Nd) : Does F2 24 [.ptr (some (r, 0)), .agg (nodeC nd)] A [rA r most S] fun v A' H' => ∃ P, H' = [P] ∧ A' = A ∧ ∃ T, P = rA r most T ∧ MakeR S (norm nd) most v T :=
  (rMake hlen htot nd).mono fun v A' H' ⟨h1, h2⟩ => by
    obtain ⟨T, h3, h4⟩ := MakeQ.r (H := fun S => rA r most S) h2
    exact ⟨_, h3, h1, T, rfl, h4⟩
theorem aKeep_s (hlen : S.length < 1000000) (id : Int) (hr : rf S id < 1000000000) : Does F2 14 [.ptr (some (a, 0)), .int .i64 id] A [aA a most S] fun v A' H' => ∃ P, H' = [P] ∧ A' = A ∧ ∃ T, P = aA a most T ∧ KeepR S id v T :=
  (aKeep hlen id hr).mono fun v A' H' ⟨h1, h2⟩ => by
    rcases h2 with ⟨a1, a2, a3⟩ | ⟨a1, a2, a3⟩
    · exact ⟨_, a3, h1, S, rfl, .inl ⟨a1, a2, rfl⟩⟩
    · exact ⟨_, a3, h1, _, rfl, .inr ⟨a1, a2, rfl⟩⟩
theorem rKeep_s (hlen : S.length < 1000000) (id : Int) (hr : rf S id < 1000000000) : Does F2 25 [.ptr (some (r, 0)), .int .i64 id] A [rA r most S] fun v A' H' => ∃ P, H' = [P] ∧ A' = A ∧ ∃ T, P = rA r most T ∧ KeepR S id v T :=
  (rKeep hlen id hr).mono fun v A' H' ⟨h1, h2⟩ => by
    rcases h2 with ⟨a1, a2, a3⟩ | ⟨a1, a2, a3⟩
    · exact ⟨_, a3, h1, S, rfl, .inl ⟨a1, a2, rfl⟩⟩
    · exact ⟨_, a3, h1, _, rfl, .inr ⟨a1, a2, rfl⟩⟩
theorem aDrop_s (hlen : S.length < 1000000) (htot : 9 * total S + 10 < 1000000000) (id : Int) : Does F2 18 [.ptr (some (a, 0)), .int .i64 id] A [aA a most S] fun v A' H' => ∃ P, H' = [P] ∧ A' = A ∧ ∃ T, P = aA a most T ∧ DropR S id v T :=
  (aDrop hlen htot id).mono fun v A' H' ⟨h1, h2⟩ => by
    rcases h2 with ⟨a1, a2, a3⟩ | ⟨a1, a2, T, a3, a4⟩
    · exact ⟨_, a3, h1, S, rfl, .inl ⟨a1, a2, rfl⟩⟩
    · exact ⟨_, a4, h1, _, rfl, .inr ⟨a1, a2, a3⟩⟩
theorem rDrop_s (hlen : S.length < 1000000) (htot : 9 * total S + 10 < 1000000000) (id : Int) : Does F2 26 [.ptr (some (r, 0)), .int .i64 id] A [rA r most S] fun v A' H' => ∃ P, H' = [P] ∧ A' = A ∧ ∃ T, P = rA r most T ∧ DropR S id v T :=
  (rDrop (total S) S (Nat.le_refl _) hlen (by omega) id A).mono fun v A' H' ⟨h1, h2⟩ => by
    rcases h2 with ⟨a1, a2, a3⟩ | ⟨a1, a2, T, a3, a4⟩
    · exact ⟨_, a3, h1, S, rfl, .inl ⟨a1, a2, rfl⟩⟩
    · exact ⟨_, a4, h1, _, rfl, .inr ⟨a1, a2, a3⟩⟩

theorem plays_d {acts : List ActV} {base : Option (Nat × Nat)} {cap : Cap} {q : Nat} (hq : acts ≠ [] → base = some (q, 0) ∧ (q, (⟨acts.flatMap actC, .ro⟩ : Blk)) ∈ A) :
    Does F2 5 [.int .i64 most, .slice base acts.length cap] A [] fun v A' H' => v = .bool true := by
  refine Does.fn F2_plays ?_
  refine go ?_
  by_cases hm : most < 1 ∨ 20000 < most
  · refine WP.opd (OpOk.call0 rfl rfl (aNew_err hm) ?_)
    rintro v A1 H1 - ⟨rfl, rfl, rfl⟩
    refine go ?_
    refine WP.opd (OpOk.call0 rfl rfl (rNew_err hm) ?_)
    rintro v A2 H1 - ⟨rfl, rfl, rfl⟩
    refine go ?_
    refine WP.opd (OpOk.call0 rfl rfl known9_d ?_)
    rintro v A1 H1 - ⟨rfl, rfl, rfl⟩
    refine go ?_
    exact retQ_r rfl (Ent.refl _ _) rfl
  · refine WP.opd (OpOk.call0 rfl rfl (aNew_ok (by omega) (by omega)) ?_)
    rintro v A1 H1 - ⟨rfl, a, rfl, rfl⟩
    refine go ?_
    refine WP.opd (OpOk.call0 rfl rfl (rNew_ok (by omega) (by omega)) ?_)
    rintro v A2 H1 - ⟨rfl, r, rfl, rfl⟩
    refine go ?_
    refine WP.loop (σ := Nat × St) (fun s => 60 - s.1) (fun s => [(1, .slice base acts.length cap), (5, .ptr (some (a, 0))), (7, .ptr (some (r, 0))), (9, .int .i64 s.1)]) (fun s => [aA a most s.2, rA r most s.2]) (fun s A' => A' = A2 ∧ s.1 ≤ 60 ∧ s.2.length ≤ s.1 ∧ total s.2 ≤ 10 * s.1) (0, []) LeE.go (Ent.refl _ _) ⟨rfl, by omega, by simp, by simp [total]⟩ ?_
    rintro ⟨i, S⟩ A3 ⟨rfl, hi, hS, hT⟩
    simp only at hi hS hT ⊢
    unfold s5_l0
    by_cases hlt : i < acts.length ∧ i < 60
    · obtain ⟨hl, h60⟩ := hlt
      obtain ⟨rfl, hq1⟩ := hq (by rintro rfl; simp at hl)
      have hx := List.getElem?_eq_getElem hl
      generalize acts[i]'hl = x at hx
      have hal := actC_len x
      have hfl := flat_length actC_len acts
      have hrd : ((acts.flatMap actC).drop (0 + ((i : Nat) : Int).toNat * 12)).take 12 = actC x := by
        have := flat_cells actC_len acts i 0 12 x hx (by omega)
        rw [List.drop_zero, show (actC x).take 12 = actC x from List.take_of_length_le (by rw [hal]; omega)] at this
        rw [show 0 + ((i : Nat) : Int).toNat * 12 = i * 12 + 0 by simp]; exact this
      have hle : i * 12 + 12 ≤ acts.length * 12 := by
        have := Nat.mul_le_mul_right 12 (show i + 1 ≤ acts.length from hl)
        omega
      refine go ?_
      apply WP.loads; exact rfl; exact Rds.per hq1 rfl (by show 0 + ((i : Nat) : Int).toNat * 12 + 12 ≤ _; rw [hfl]; simp; omega) hrd
      apply WP.new; intro b
      apply WP.store; exact rfl; exact rfl; exact hal; exact Wr.pts 2 rfl rfl (by simp) (by simp [AV.cells, hal]) (actC_one x)
      simp only [AV.cells]
      rw [splice_all _ _ (by rw [hal]; rfl)]
      show WP _ _ _ _ [aA a most S, rA r most S, pts b ⟨actC x, .own⟩] _
      have k0 : (actC x)[0 + 0]? = some (.int .i64 x.kind) := rfl
      have k1 : (actC x)[0 + 1]? = some (.int .i64 x.n) := rfl
      have kall : ((actC x).drop 0).take 12 = actC x := by rw [List.drop_zero, List.take_of_length_le (by omega)]
      refine go ?_
      refine WP.midB (fun L A' Hs' => ∃ T, LeE [(1, .slice (some (q, 0)) acts.length cap), (5, .ptr (some (a, 0))), (7, .ptr (some (r, 0))), (9, .int .i64 i)] L ∧ A' = A3 ∧ Ent A' Hs' A' [aA a most T, rA r most T] ∧ T.length ≤ i + 1 ∧ total T ≤ 10 * (i + 1)) ?_ ?_
      · have hrt := rf_le_total S x.n
        refine WP.cond rfl (fun hb => ?_) (fun hb => ?_)
        · apply WP.seq; apply WP.loads; exact rfl; exact Rds.pts 2 rfl rfl (by rw [hal]; simp) kall
          refine WP.opd (OpOk.call0 rfl rfl (node_d x) ?_)
          rintro v A1 H1 - ⟨rfl, rfl, rfl⟩
          generalize hnd : actNd x = nd
          have hml := nodeC_len nd
          have nall : ((nodeC nd).drop 0).take 25 = nodeC nd := by rw [List.drop_zero, List.take_of_length_le (by omega)]
          apply WP.new; intro n
          show WP _ _ _ _ [aA a most S, rA r most S, pts b ⟨actC x, .own⟩, pts n ⟨zN, .own⟩] _
          apply WP.store; exact rfl; exact rfl; exact hml; exact Wr.pts 3 rfl rfl (by simp) (by simp [AV.cells, hml, zN]) (nodeC_one _)
          simp only [AV.cells]
          rw [splice_all _ _ (by rw [hml]; rfl)]
          refine go ?_
          apply WP.loads; exact rfl; exact Rds.pts 3 rfl rfl (by rw [hml]; simp) nall
          refine WP.opd (OpOk.call0 rfl rfl (given_d nd) ?_)
          rintro v A2 H1 - ⟨rfl, rfl, rfl⟩
          refine WP.opd (OpOk.call1s rfl rfl 0 rfl (aMake_s (by omega) (by omega) nd) ?_)
          rintro v A1 P1 - ⟨rfl, T, rfl, hR⟩
          obtain ⟨id, e, rfl⟩ := hR.form
          refine go ?_
          apply WP.loads; exact rfl; exact Rds.pts 3 rfl rfl (by rw [hml]; simp) nall
          refine WP.opd (OpOk.call1s rfl rfl 1 rfl (rMake_s (by omega) (by omega) nd) ?_)
          rintro v A2 P2 - ⟨rfl, T', rfl, hR'⟩
          obtain ⟨e1, rfl⟩ := hR.det hR'
          subst e1
          have hsz := hR.size
          refine go ?_
          exact midQ_n ⟨T, LeE.go, rfl, Ent.take 2, by omega, by omega⟩
        · refine go ?_
          refine WP.cond rfl (fun hb2 => ?_) (fun hb2 => ?_)
          · refine WP.seq ?_
            refine god ?_
            refine WD.loud rfl (OpOk.call1s rfl rfl 0 rfl (aKeep_s (by omega) x.n (by omega)) ?_)
            rintro v A1 P1 - ⟨rfl, T, rfl, hR⟩
            obtain ⟨e, rfl⟩ := hR.form
            refine god ?_
            refine WD.loud rfl (OpOk.call1s rfl rfl 1 rfl (rKeep_s (by omega) x.n (by omega)) ?_)
            rintro v A2 P2 - ⟨rfl, T', rfl, hR'⟩
            obtain ⟨e1, rfl⟩ := hR.det hR'
            subst e1
            have hsz := hR.size
            refine god ?_
            refine WD.nil RdsOk.go ?_
            refine go ?_
            exact midQ_n ⟨T, LeE.go, rfl, Ent.take 2, by omega, by omega⟩
          · refine WP.seq ?_
            refine god ?_
            refine WD.loud rfl (OpOk.call1s rfl rfl 0 rfl (aDrop_s (by omega) (by omega) x.n) ?_)
            rintro v A1 P1 - ⟨rfl, T, rfl, hR⟩
            obtain ⟨e, rfl⟩ := hR.form
            refine god ?_
            refine WD.loud rfl (OpOk.call1s rfl rfl 1 rfl (rDrop_s (by omega) (by omega) x.n) ?_)
            rintro v A2 P2 - ⟨rfl, T', rfl, hR'⟩
            obtain ⟨e1, rfl⟩ := hR.det hR'
            subst e1
            have hsz := hR.size
            refine god ?_
            refine WD.nil RdsOk.go ?_
            refine go ?_
            exact midQ_n ⟨T, LeE.go, rfl, Ent.take 2, by omega, by omega⟩
      · rintro L A1 Hs1 ⟨T, hL, rfl, hE, hT1, hT2⟩
        refine WP.weak hL (WP.ent hE ?_)
        refine go ?_
        refine WP.opd (OpOk.call rfl rfl (same_d (by omega)) (R := []) rfl ?_)
        rintro v A2 H1 - ⟨rfl, rfl, rfl⟩
        refine go ?_
        exact loopQ_n (i + 1, T) (by simp; omega) LeE.go (Ent.refl _ _) ⟨rfl, by simp; omega, by simp; omega, by simp; omega⟩
    · by_cases hl : i < acts.length
      · have h60 : ¬ i < 60 := fun hh => hlt ⟨hl, hh⟩
        refine go ?_
        refine WP.opd (OpOk.call0 rfl rfl known9_d ?_)
        rintro v A1 H1 - ⟨rfl, rfl, rfl⟩
        refine go ?_
        exact retQ_r rfl (Ent.refl _ _) rfl
      · refine go ?_
        refine WP.opd (OpOk.call0 rfl rfl known9_d ?_)
        rintro v A1 H1 - ⟨rfl, rfl, rfl⟩
        refine go ?_
        exact retQ_r rfl (Ent.refl _ _) rfl
end
end Go.Proofs.Ytchffjnmkpedkaa
