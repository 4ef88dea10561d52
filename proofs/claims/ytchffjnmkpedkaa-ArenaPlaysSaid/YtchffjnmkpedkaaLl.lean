/-
  LITE, part l: every operation that is served. Own work of this session.
-/
import Derived.Test.YtchffjnmkpedkaaLx
set_option linter.unusedSectionVars false
set_option linter.unusedSimpArgs false
set_option linter.unusedVariables false
namespace Go.Lite
set_option linter.unusedSectionVars false
set_option linter.unusedSimpArgs false
set_option linter.unusedVariables false
open Go.RowKit
variable [Ctx]

section
variable {P : Program} {ρ : Ren} {h h' : Hp} {w : World} {fr : Fr} {env : Operand → Value}

theorem zero_ok {t : TypeId} {l : List AV} (hz : zeroT P t = some l) (w : World) : ∃ z, (zeroValue t).run P w = .ok z w ∧ ∀ ρ, RelL ρ l z.cells.toList := by
  obtain ⟨i, z, hi, hz1, hz2⟩ := zeroT_spec hz
  exact ⟨z, run_zero hi hz1 w, fun ρ => (ofCells_rel hz2).1⟩

theorem places_ok (fields : List Field) (hf : fields.all (fun f => (sizeT P f.type).isSome) = true) (w : World) :
    (fields.toArray.mapM (fun f => do pure (f.offset, ← sizeOf f.type) : Field → Sem (Nat × Nat))).run P w = .ok (fields.map fun f => (f.offset, (sizeT P f.type).getD 0)).toArray w := by
  rw [List.mapM_toArray]
  simp only [Sem.run_map]
  have : (fields.mapM (fun f => do pure (f.offset, ← sizeOf f.type) : Field → Sem (Nat × Nat))).run P w = .ok (fields.map fun f => (f.offset, (sizeT P f.type).getD 0)) w := by
    induction fields with
    | nil => simp
    | cons f fs ih =>
      simp only [List.all_cons, Bool.and_eq_true] at hf
      obtain ⟨n, hn⟩ := Option.isSome_iff_exists.1 hf.1
      have ih' := ih hf.2
      simp only [bind_pure_comp] at ih'
      simp [List.mapM_cons, run_sizeT hn, ih', hn]
  rw [this]; rfl

set_option maxHeartbeats 1000000 in
theorem evalO_ok {o : Oper} {x : O} (hl : lowerOp P o.op = some x) (H : HRel ρ h w) {out : Out} (he : evalO fr h x = some (out, h'))
    (hop : ∀ X ∈ o.op.operands.toList, EnvOk ρ fr env X) : OpOk P ρ h w (execOp env o) out h' := by
  obtain ⟨dst, op, type, pos, after, guard⟩ := o
  simp only at hl hop
  cases op with
  | move X =>
    simp only [lowerOp, Option.map_eq_some_iff] at hl
    obtain ⟨a, h1, rfl⟩ := hl
    simp only [evalO, Option.map_eq_some_iff] at he
    obtain ⟨v, hv, he⟩ := he
    cases he
    exact OpOk.pure H (by simp [execOp]) (hop X (by simp [Op.operands]) _ _ h1 hv)
  | assign X =>
    simp only [lowerOp, Option.map_eq_some_iff] at hl
    obtain ⟨a, h1, rfl⟩ := hl
    simp only [evalO, Option.map_eq_some_iff] at he
    obtain ⟨v, hv, he⟩ := he
    cases he
    exact OpOk.pure H (by simp [execOp]) (hop X (by simp [Op.operands]) _ _ h1 hv)
  | pick C A B =>
    simp only [lowerOp] at hl
    split at hl
    case h_2 => cases hl
    rename_i c a b e1 e2 e3
    cases hl
    simp only [evalO] at he
    split at he
    case h_2 => cases he
    rename_i t x y f1 f2 f3
    cases he
    have rc := rel_boolv (hop C (by simp [Op.operands]) _ _ e1 f1)
    have ra := hop A (by simp [Op.operands]) _ _ e2 f2
    have rb := hop B (by simp [Op.operands]) _ _ e3 f3
    refine OpOk.pure (v' := if t then env A else env B) H (by simp [execOp, rc, asBool]) ?_
    cases t
    · exact rb
    · exact ra
  | alloc e =>
    simp only [lowerOp, Option.map_eq_some_iff] at hl
    obtain ⟨cells, hz, rfl⟩ := hl
    simp only [evalO, Option.some.injEq, Prod.mk.injEq] at he
    obtain ⟨rfl, rfl⟩ := he
    obtain ⟨z, hz1, hz2⟩ := zero_ok hz w
    have A := H.alloc cells .own z.cells e (fun i v hv => by
      obtain ⟨u, hu, r⟩ := RelL.get (hz2 ρ) hv
      exact ⟨u, by simpa using hu, r⟩)
    refine ⟨_, _, _, _, ?_, .inl rfl, .ptr _ _ _ (Ren.add_same _ _ _), A.1, A.2⟩
    exact run_v (by simp [Instr.alloc, hz1, newVar, newRow])
  | box e X =>
    simp only [lowerOp, Option.map_eq_some_iff] at hl
    obtain ⟨a, h1, rfl⟩ := hl
    simp only [evalO] at he
    split at he
    case h_2 => cases he
    rename_i v hv
    split at he
    case isFalse => cases he
    rename_i hone
    simp only [Option.some.injEq, Prod.mk.injEq] at he
    obtain ⟨rfl, rfl⟩ := he
    have r := (hop X (by simp [Op.operands]) _ _ h1 hv).cells (AV.noJunk hone)
    have A := H.alloc v.cells .own (env X).cells e (fun i x hx => by
      obtain ⟨u, hu, r⟩ := RelL.get r hx
      exact ⟨u, by simpa using hu, r⟩)
    refine ⟨_, _, _, _, ?_, .inl rfl, .ptr _ _ _ (Ren.add_same _ _ _), A.1, A.2⟩
    exact run_v (by simp [Instr.box, newVar, newRow])
  | build t parts =>
    simp only [lowerOp] at hl
    split at hl
    · cases hl
    · rename_i zl hz
      obtain ⟨z, hz1, hz2⟩ := zero_ok hz w
      split at hl
      · rename_i fields hu
        split at hl
        case isFalse => cases hl
        rename_i hall
        rw [Option.map_eq_some_iff] at hl
        obtain ⟨lp, hlp, rfl⟩ := hl
        simp only [evalO] at he
        split at he
        case h_2 => cases he
        rename_i ps hps
        rw [Option.map_eq_some_iff] at he
        obtain ⟨cs, hcs, he⟩ := he
        cases he
        obtain ⟨c', q1, q2⟩ := fill_rel hlp hps (fun p hp => hop p.2 (by simp only [Op.operands, List.mem_map]; exact ⟨p, hp, rfl⟩)) (hz2 ρ) hcs
        refine OpOk.pure (v' := .agg c') H (run_v ?_) (.agg _ _ q2)
        have hp := places_ok (P := P) fields.toList hall w
        simp only [Array.toArray_toList] at hp
        simp only [Instr.build, Sem.run_bind, hz1, Result.andThen_ok, run_underlying hu, hp]
        have hplace : (fun (i : Nat) => (fields.toList.map fun f => (f.offset, (sizeT P f.type).getD 0)).toArray[i]?) = (fun (i : Nat) => (fields[i]?).bind fun (f : Field) => (sizeT P f.type).map fun n => (f.offset, n)) := by
          funext i
          simp only [List.getElem?_toArray, List.getElem?_map, Array.getElem?_toList]
          cases hfi : fields[i]? with
          | none => rfl
          | some f =>
            have hmem : f ∈ fields.toList := by
              rw [← Array.getElem?_toList] at hfi
              exact List.mem_of_getElem? hfi
            have := List.all_eq_true.1 hall f hmem
            obtain ⟨n, hn⟩ := Option.isSome_iff_exists.1 this
            simp [hn]
        have hparts : (parts.map fun x => (x.1, env x.2)).toList = parts.toList.map fun x => (x.1, env x.2) := by simp
        simp only [hparts]
        rw [hplace, q1]
        rfl
      · rename_i n e hu
        split at hl
        case h_2 => cases hl
        rename_i sz hsz
        rw [Option.map_eq_some_iff] at hl
        obtain ⟨lp, hlp, rfl⟩ := hl
        simp only [evalO] at he
        split at he
        case h_2 => cases he
        rename_i ps hps
        rw [Option.map_eq_some_iff] at he
        obtain ⟨cs, hcs, he⟩ := he
        cases he
        obtain ⟨c', q1, q2⟩ := fill_rel hlp hps (fun p hp => hop p.2 (by simp only [Op.operands, List.mem_map]; exact ⟨p, hp, rfl⟩)) (hz2 ρ) hcs
        refine OpOk.pure (v' := .agg c') H (run_v ?_) (.agg _ _ q2)
        have hparts : (parts.map fun x => (x.1, env x.2)).toList = parts.toList.map fun x => (x.1, env x.2) := by simp
        simp only [Instr.build, Sem.run_bind, hz1, Result.andThen_ok, run_underlying hu, run_sizeT hsz, hparts]
        rw [q1]
        rfl
      · cases hl
  | buildSlice t len parts =>
    simp only [lowerOp] at hl
    split at hl
    case h_2 => cases hl
    rename_i e hu
    split at hl
    case h_2 => cases hl
    rename_i n zl hn hz
    split at hl
    case isFalse => cases hl
    rename_i hc
    obtain ⟨hc1, hc2, hc3⟩ := hc
    rw [Option.map_eq_some_iff] at hl
    obtain ⟨lp, hlp, rfl⟩ := hl
    simp only [evalO] at he
    split at he
    case h_2 => cases he
    rename_i ps hps
    rw [Option.map_eq_some_iff] at he
    obtain ⟨cs, hcs, he⟩ := he
    cases he
    obtain ⟨i, z, hi, hz1, hz2⟩ := zeroT_spec hz
    have hzr := (ofCells_rel (ρ := ρ) hz2).1
    have hzs : z.cells.size = n := by have := RelL.length hzr; simp at this; omega
    have hzz : RelL ρ (List.replicate len zl).flatten (Builtin.zeroCells z.cells len).toList := by
      rw [zeroCells_toList]; exact RelL.flatten_replicate hzr len
    obtain ⟨c', q1, q2⟩ := fill_rel hlp hps (fun p hp => hop p.2 (by simp only [Op.operands, List.mem_map]; exact ⟨p, hp, rfl⟩)) hzz hcs
    have A := H.alloc cs .own c' e (fun j v hv => by
      obtain ⟨u, hu, r⟩ := RelL.get q2 hv
      exact ⟨u, by simpa using hu, r⟩)
    refine ⟨_, _, _, _, run_v ?_, .inl rfl, .slice _ _ _ _ _ _ (Ren.add_same _ _ _) (.inr rfl) (Nat.le_refl _), A.1, A.2⟩
    have hparts : (parts.map fun x => (x.1, env x.2)).toList = parts.toList.map fun x => (x.1, env x.2) := by simp
    have hcond : ¬ (len * n > 2 ^ 24) := by omega
    simp only [Instr.buildSlice, Sem.run_bind, run_underlying hu, Result.andThen_ok, run_sizeT hn, Sem.run_ite, if_neg hcond]
    by_cases h0 : len * n = 0
    · have hl0 : len = 0 := by
        rcases Nat.mul_eq_zero.1 h0 with hh | hh
        · exact hh
        · exact absurd hh hc3
      subst hl0
      have hzc : Builtin.zeroCells z.cells 0 = #[] := by simp [Builtin.zeroCells]
      rw [hzc] at q1
      simp only [Sem.run_pure, Result.andThen_ok, hparts, Nat.zero_mul]
      have harr : (Array.range 0).map (fun x => (#[] : Array Value)[x % (#[] : Array Value).size]!) = #[] := by simp
      rw [harr, q1]
      simp [newRow]
    · simp only [if_neg h0, run_zero hi hz1, Result.andThen_ok, Sem.run_pure, hparts]
      have harr : (Array.range (len * n)).map (fun x => z.cells[x % z.cells.size]!) = Builtin.zeroCells z.cells len := by simp [Builtin.zeroCells, hzs]
      rw [harr, q1]
      simp [newRow]
  | load t A =>
    simp only [lowerOp] at hl
    split at hl
    case h_2 => cases hl
    rename_i g x hg hx
    cases hl
    simp only [evalO] at he
    split at he
    case h_2 => cases he
    rename_i p hp
    obtain ⟨l, hl, hA⟩ := rel_ptrv (hop A (by simp [Op.operands]) _ _ hx hp)
    have key : ∀ v, loadA h p g = some v → OpOk P ρ h w (execOp env { dst, op := .load t A, type, pos, after, guard }) (.val v) h := by
      intro v hv
      obtain ⟨u, hu, r⟩ := loadVar_ok (P := P) H hg hl hv
      exact OpOk.pure H (run_v (by simp [hA, Instr.loadAt, Instr.sureAddr, hu])) r
    cases g with
    | some n =>
      simp only [Option.map_eq_some_iff] at he
      obtain ⟨cs, hcs, he⟩ := he
      cases he
      exact key _ (by simp [loadA, hcs])
    | none =>
      simp only [Option.map_eq_some_iff] at he
      obtain ⟨v, hv, he⟩ := he
      cases he
      exact key _ (by simp [loadA, hv])
  | store t A X =>
    simp only [lowerOp] at hl
    split at hl
    case h_2 => cases hl
    rename_i n p v hn hp hv
    cases hl
    simp only [evalO] at he
    split at he
    case h_2 => cases he
    rename_i q u hq hu
    split at he
    case isFalse => cases he
    rename_i hsz
    rw [Option.map_eq_some_iff] at he
    obtain ⟨h1, hw, he⟩ := he
    cases he
    obtain ⟨l, hl, hA⟩ := rel_ptrv (hop A (by simp [Op.operands]) _ _ hp hq)
    have r := hop X (by simp [Op.operands]) _ _ hv hu
    have hnj : u ≠ .junk := by
      rintro rfl
      unfold Hp.write at hw
      split at hw
      · split at hw
        · cases hw
        · split at hw
          · split at hw
            · rename_i ho; simp [AV.cells, AV.one] at ho
            · cases hw
          · cases hw
      · cases hw
    have rc := r.cells hnj
    obtain ⟨w', q1, q2, q3⟩ := write_ok (P := P) H hl rc hw rfl
    refine ⟨.skip, undef, w', ρ, ?_, .inr ⟨rfl, rfl⟩, .tuple _ _ .nil, q2, q3⟩
    have hs2 : (env X).cells.size = n := by have := RelL.length rc; simp at this; omega
    simp [execOp, hA, Instr.storeAt, Instr.sureAddr, storeVar, run_sizeT hn, hs2, q1]
  | nilCheck X =>
    simp only [lowerOp, Option.map_eq_some_iff] at hl
    obtain ⟨a, h1, rfl⟩ := hl
    simp only [evalO] at he
    split at he
    · rename_i p hp
      cases he
      have r := hop X (by simp [Op.operands]) _ _ h1 hp
      obtain ⟨l, hl, hX⟩ := rel_ptrv r
      exact OpOk.pure (v' := env X) H (by simp [execOp, hX]) r
    · rename_i f a b hp
      cases he
      have r := hop X (by simp [Op.operands]) _ _ h1 hp
      refine OpOk.pure (v' := env X) H ?_ r
      cases hx : env X <;> rw [hx] at r <;> cases r
      simp [execOp, hx]
    · cases he
  | binOp op t X Y yt =>
    simp only [lowerOp] at hl
    have fin : ∀ {a b : Opd}, lowerOpd X = some a → lowerOpd Y = some b → x = .bin op a b → OpOk P ρ h w (execOp env { dst, op := .binOp op t X Y yt, type, pos, after, guard }) out h' := by
      rintro a b e1 e2 rfl
      simp only [evalO] at he
      split at he
      case h_2 => cases he
      rename_i u v f1 f2
      rw [Option.map_eq_some_iff] at he
      obtain ⟨c, hc, he⟩ := he
      cases he
      obtain ⟨r, hr1, hr2⟩ := bin_ok (P := P) (w := w) (t := t) (X := X) (Y := Y) (hop X (by simp [Op.operands]) _ _ e1 f1) (hop Y (by simp [Op.operands]) _ _ e2 f2) hc
      exact OpOk.pure H (run_v hr1) hr2
    split at hl
    · rename_i e1 e2; cases hl; exact fin e1 e2 rfl
    · rename_i e1 e2; cases hl; exact fin e1 e2 rfl
    · rename_i d a b _ _ hu e1 e2
      have fin2 : ∀ (neg : Bool) (k : EqK), eqKT P t = some k → op = (if neg then .neq else .eql) → x = .eq neg k a b → OpOk P ρ h w (execOp env { dst, op := .binOp op t X Y yt, type, pos, after, guard }) out h' := by
        rintro neg k hk rfl rfl
        simp only [evalO] at he
        split at he
        case h_2 => cases he
        rename_i u v f1 f2
        rw [Option.map_eq_some_iff] at he
        obtain ⟨c, hc, he⟩ := he
        cases he
        obtain ⟨r, hr1, hr2⟩ := eq_ok (P := P) (w := w) (neg := neg) (t := t) (X := X) (Y := Y) hk (hop X (by simp [Op.operands]) _ _ e1 f1) (hop Y (by simp [Op.operands]) _ _ e2 f2) hc
        exact OpOk.pure H (run_v hr1) hr2
      split at hl
      · rename_i k hk; cases hl; exact fin2 false k hk rfl rfl
      · rename_i k hk; cases hl; exact fin2 true k hk rfl rfl
      · cases hl
    · cases hl
  | unOp op t X =>
    simp only [lowerOp, Option.map_eq_some_iff] at hl
    obtain ⟨a, h1, rfl⟩ := hl
    simp only [evalO] at he
    split at he
    case h_2 => cases he
    rename_i v hv
    rw [Option.map_eq_some_iff] at he
    obtain ⟨c, hc, he⟩ := he
    cases he
    have r := hop X (by simp [Op.operands]) _ _ h1 hv
    unfold unA at hc
    split at hc
    · cases hc
      exact OpOk.pure H (run_v (by rw [rel_boolv r]; simp [Op.unary])) (.bool _)
    · cases hc
      exact OpOk.pure H (run_v (by rw [rel_intv r]; simp [Op.unary, Op.intArith])) (.int _ _)
    · cases hc
  | convert s d X =>
    simp only [lowerOp] at hl
    split at hl
    · rename_i ks kd a hs hd h1
      cases hl
      simp only [evalO] at he
      split at he
      case h_2 => cases he
      rename_i k n hv
      cases he
      have r := hop X (by simp [Op.operands]) _ _ h1 hv
      exact OpOk.pure H (run_v (by rw [rel_intv r]; simp [convert, run_underlying hs, run_underlying hd, Conv.intToInt])) (.int _ _)
    · rename_i a hs hd h1
      cases hl
      simp only [evalO] at he
      split at he
      case h_2 => cases he
      rename_i k hv
      cases he
      have r := hop X (by simp [Op.operands]) _ _ h1 hv
      exact OpOk.pure H (run_v (by rw [rel_strv r]; simp [convert, run_underlying hs, run_underlying hd])) (.str _)
    · cases hl
  | makeSlice t L C =>
    simp only [lowerOp] at hl
    split at hl
    case h_2 => cases hl
    rename_i e hu
    split at hl
    case h_2 => cases hl
    rename_i i zl a b hi hz e1 e2
    split at hl
    case isFalse => cases hl
    rename_i hc
    cases hl
    simp only [evalO] at he
    split at he
    case h_2 => cases he
    rename_i kl n kc m f1 f2
    split at he
    case isFalse => cases he
    rename_i hb
    obtain ⟨hb1, hb2, hb3, hb4⟩ := hb
    obtain ⟨n, rfl⟩ := Int.eq_ofNat_of_zero_le hb1
    obtain ⟨m, rfl⟩ := Int.eq_ofNat_of_zero_le (Int.le_trans hb1 hb2)
    simp only [Option.some.injEq, Prod.mk.injEq, Int.toNat_natCast] at he
    obtain ⟨rfl, rfl⟩ := he
    obtain ⟨i', z, hi', hz1, hz2⟩ := zeroT_spec hz
    rw [hi] at hi'; cases hi'
    rw [← Int.natCast_mul] at hb3
    obtain ⟨v', w', ρ', q1, q2, q3, q4⟩ := makeSlice_ok (P := P) H hu hi hz1 hz2 hc.1 (kl := kl) (kc := kc) (n := n) (m := m) (by omega) (by omega) (by omega)
    exact ⟨_, _, _, _, run_v (by rw [rel_intv (hop L (by simp [Op.operands]) _ _ e1 f1), rel_intv (hop C (by simp [Op.operands]) _ _ e2 f2)]; exact q1), .inl rfl, q2, q3, q4⟩
  | slice t X lo hi mx =>
    simp only [lowerOp] at hl
    split at hl
    case h_2 => cases hl
    rename_i a l i m e1 e2 e3 e4
    have fin : ∀ {k : SlK}, x = .slice k a l i m → ((k = .str ∧ P.underlying t = some .string) ∨ (∃ e z, k = .slice z ∧ P.underlying t = some (.slice e) ∧ sizeT P e = some z) ∨
      (∃ n e z, k = .arr n z ∧ P.underlying t = some (.array n e) ∧ sizeT P e = some z)) → OpOk P ρ h w (execOp env { dst, op := .slice t X lo hi mx, type, pos, after, guard }) out h' := by
      rintro k rfl hk
      simp only [evalO] at he
      split at he
      case h_2 => cases he
      rename_i v vl vi vm f1 f2 f3 f4
      split at he
      case h_2 => cases he
      rename_i nl ni nm g1 g2 g3
      rw [Option.map_eq_some_iff] at he
      obtain ⟨c, hc, he⟩ := he
      cases he
      have r := hop X (by simp [Op.operands]) _ _ e1 f1
      obtain ⟨k1, hk1⟩ := opt_rel (ρ := ρ) (env := env) e2 f2 (fun y hy => hop y (by simp [Op.operands, hy])) g1
      obtain ⟨k2, hk2⟩ := opt_rel (ρ := ρ) (env := env) e3 f3 (fun y hy => hop y (by simp [Op.operands, hy])) g2
      obtain ⟨k3, hk3⟩ := opt_rel (ρ := ρ) (env := env) e4 f4 (fun y hy => hop y (by simp [Op.operands, hy])) g3
      obtain ⟨u, hu1, hu2⟩ := slice_ok (P := P) (w := w) hk r hc k1 k2 k3
      exact OpOk.pure H (run_v (by rw [hk1, hk2, hk3]; exact hu1)) hu2
    split at hl
    · rename_i hu; cases hl; exact fin rfl (.inl ⟨rfl, hu⟩)
    · rename_i e hu
      rw [Option.map_eq_some_iff] at hl; obtain ⟨z, hz, rfl⟩ := hl
      exact fin rfl (.inr (.inl ⟨e, z, rfl, hu, hz⟩))
    · rename_i n e hu
      rw [Option.map_eq_some_iff] at hl; obtain ⟨z, hz, rfl⟩ := hl
      exact fin rfl (.inr (.inr ⟨n, e, z, rfl, hu, hz⟩))
    · cases hl
  | fieldAddr s X f =>
    simp only [lowerOp] at hl
    split at hl
    case h_2 => cases hl
    rename_i fields a hu e1
    split at hl
    case h_2 => cases hl
    rename_i fd hfd
    split at hl
    case h_2 => cases hl
    rename_i n hn
    split at hl
    · cases hl
    · rename_i hn0
      cases hl
      simp only [evalO] at he
      split at he
      case h_2 => cases he
      rename_i p hp
      cases he
      obtain ⟨l, hl, hX⟩ := rel_ptrv (hop X (by simp [Op.operands]) _ _ e1 hp)
      refine OpOk.pure (v' := .pointer (some ⟨l.row, l.base + p.2 + fd.offset, none⟩)) H (run_v ?_) ?_
      · simp [hX, Instr.fieldAt, run_underlying hu, hfd, Instr.sureAddr, fieldPlace, run_sizeT hn, hn0, addr_add]
      · have := Rel.ptr (ρ := ρ) p.1 (p.2 + fd.offset) l hl
        rwa [← Nat.add_assoc] at this
  | field s X f =>
    simp only [lowerOp] at hl
    split at hl
    case h_2 => cases hl
    rename_i fields a hu e1
    split at hl
    case h_2 => cases hl
    rename_i fd hfd
    rw [Option.map_eq_some_iff] at hl
    obtain ⟨g, hg, rfl⟩ := hl
    simp only [evalO] at he
    split at he
    case h_2 => cases he
    rename_i cs hcs
    rw [Option.map_eq_some_iff] at he
    obtain ⟨v, hv, he⟩ := he
    cases he
    have r := hop X (by simp [Op.operands]) _ _ e1 hcs
    cases hx : env X <;> rw [hx] at r <;> cases r
    rename_i us hr
    obtain ⟨u, hu1, hu2⟩ := run_partA (P := P) hg hr hv w
    exact OpOk.pure H (run_v (by rw [hx]; simp [Instr.field, run_underlying hu, hfd, asAgg, hu1])) hu2
  | indexAddr t X I =>
    simp only [lowerOp] at hl
    split at hl
    · rename_i n e a b hu e1 e2
      rw [Option.map_eq_some_iff] at hl
      obtain ⟨z, hz, rfl⟩ := hl
      simp only [evalO] at he
      split at he
      · rename_i p k j f1 f2
        split at he
        case isFalse => cases he
        rename_i hb
        cases he
        obtain ⟨l, hl, hX⟩ := rel_ptrv (hop X (by simp [Op.operands]) _ _ e1 f1)
        have hI := rel_intv (hop I (by simp [Op.operands]) _ _ e2 f2)
        refine OpOk.pure (v' := .pointer (some ⟨l.row, l.base + p.2 + j.toNat * z, none⟩)) H (run_v ?_) ?_
        · simp [hX, hI, Instr.indexAt, asIntOf, run_underlying hu, Instr.sureAddr, hb, run_sizeT hz, addr_add]
        · have := Rel.ptr (ρ := ρ) p.1 (p.2 + j.toNat * z) l hl
          rwa [← Nat.add_assoc] at this
      · cases he
      · cases he
    · rename_i e a b hu e1 e2
      rw [Option.map_eq_some_iff] at hl
      obtain ⟨z, hz, rfl⟩ := hl
      simp only [evalO] at he
      split at he
      · cases he
      · rename_i p len cap k j f1 f2
        split at he
        case isFalse => cases he
        rename_i hb
        cases he
        have hI := rel_intv (hop I (by simp [Op.operands]) _ _ e2 f2)
        have r := hop X (by simp [Op.operands]) _ _ e1 f1
        obtain ⟨l, acap, hl, hX⟩ : ∃ l acap, ρ p.1 = some l ∧ env X = .slice (some ⟨l.row, l.base + p.2, none⟩) len acap := by
          cases hx : env X <;> rw [hx] at r <;> cases r
          · rename_i hl hoff hnc
            rcases hoff with h0 | h0
            · exfalso; omega
            · subst h0; exact ⟨_, _, hl, rfl⟩
          · rename_i hl hoff hnc htot
            rcases hoff with h0 | h0
            · exfalso; omega
            · subst h0; exact ⟨_, _, hl, rfl⟩
        refine OpOk.pure (v' := .pointer (some ⟨l.row, l.base + p.2 + j.toNat * z, none⟩)) H (run_v ?_) ?_
        · simp [hX, hI, Instr.indexAt, asIntOf, run_underlying hu, hb, run_sizeT hz, addr_add]
        · have := Rel.ptr (ρ := ρ) p.1 (p.2 + j.toNat * z) l hl
          rwa [← Nat.add_assoc] at this
      · cases he
    · cases hl
  | index t X I =>
    simp only [lowerOp] at hl
    split at hl
    · rename_i a b hu e1 e2
      cases hl
      simp only [evalO] at he
      split at he
      case h_2 => cases he
      rename_i s k n f1 f2
      split at he
      case isFalse => cases he
      rename_i hb
      rw [Option.map_eq_some_iff] at he
      obtain ⟨v, hv, he⟩ := he
      cases he
      have hX := rel_strv (hop X (by simp [Op.operands]) _ _ e1 f1)
      have hI := rel_intv (hop I (by simp [Op.operands]) _ _ e2 f2)
      have hg : s[n.toNat]? = some v := by
        rw [← hv]
        simp only [Array.getElem?_toList]
        simp [getElem?_def, ByteArray.getElem_eq_getElem_data, ByteArray.size_data]
      exact OpOk.pure H (run_v (by simp [hX, hI, Instr.index, asIntOf, run_underlying hu, hb, hg])) (.int _ _)
    · rename_i n e a b hu e1 e2
      split at hl
      case h_2 => cases hl
      rename_i z g hz hg
      cases hl
      simp only [evalO] at he
      split at he
      case h_2 => cases he
      rename_i cs k j f1 f2
      split at he
      case isFalse => cases he
      rename_i hb
      rw [Option.map_eq_some_iff] at he
      obtain ⟨v, hv, he⟩ := he
      cases he
      have r := hop X (by simp [Op.operands]) _ _ e1 f1
      have hI := rel_intv (hop I (by simp [Op.operands]) _ _ e2 f2)
      cases hx : env X <;> rw [hx] at r <;> cases r
      rename_i us hr
      obtain ⟨u, hu1, hu2⟩ := run_partA (P := P) hg hr hv w
      exact OpOk.pure H (run_v (by rw [hx, hI]; simp [Instr.index, asIntOf, run_underlying hu, hb, run_sizeT hz, hu1])) hu2
    · cases hl
  | extract X i =>
    simp only [lowerOp, Option.map_eq_some_iff] at hl
    obtain ⟨a, h1, rfl⟩ := hl
    simp only [evalO] at he
    split at he
    case h_2 => cases he
    rename_i vs hv
    rw [Option.map_eq_some_iff] at he
    obtain ⟨v, hv2, he⟩ := he
    cases he
    have r := hop X (by simp [Op.operands]) _ _ h1 hv
    cases hx : env X <;> rw [hx] at r <;> cases r
    rename_i us hr
    obtain ⟨u, hu, r⟩ := RelL.get hr hv2
    have hu' : us[i]? = some u := by simpa using hu
    exact OpOk.pure H (run_v (by rw [hx]; simp [Instr.extract, hu'])) r
  | makeFunc f first caps =>
    cases f with
    | func f =>
      simp only [lowerOp] at hl
      split at hl
      case h_2 => cases hl
      rename_i a b e1 e2
      cases hl
      simp only [evalO] at he
      split at he
      case h_2 => cases he
      rename_i va vb f1 f2
      cases he
      have r1 := envOk_list (ρ := ρ) (env := env) (fun X hX => hop X (by simp only [Op.operands]; simp at hX ⊢; exact .inl hX)) e1 f1
      have r2 := envOk_list (ρ := ρ) (env := env) (fun X hX => hop X (by simp only [Op.operands]; simp at hX ⊢; exact .inr hX)) e2 f2
      exact OpOk.pure H (run_v (v := .func (.func f) (first.map env) (caps.map env)) rfl) (.func _ _ _ _ _ (by simpa using r1) (by simpa using r2))
    | _ => simp [lowerOp] at hl
  | call c =>
    simp only [lowerOp] at hl
    exact call_ok hl H he (fun X hX => hop X (by simpa [Op.operands] using hX)) type
  | makeMap t r =>
    have A := makeMap_ok H
    have key : x = .makeMap → (Instr.makeMap t (r.map env)).run P w = .ok (.map (some w.heap.size)) (w.alloc (.map #[] 0)) → OpOk P ρ h w (execOp env ⟨dst, .makeMap t r, type, pos, after, guard⟩) out h' := by
      rintro rfl hrun
      simp only [evalO, Option.some.injEq, Prod.mk.injEq] at he
      obtain ⟨rfl, rfl⟩ := he
      exact ⟨_, _, _, _, run_v hrun, .inl rfl, .map _ _ (Ren.add_same _ _ _), A.1, A.2⟩
    cases r with
    | none =>
      simp only [lowerOp, Option.some.injEq] at hl
      exact key hl.symm (by simp [Instr.makeMap])
    | some q =>
      cases q with
      | const v =>
        cases v with
        | int k n =>
          simp only [lowerOp] at hl
          split at hl
          · rename_i kt et hu
            cases hl
            have henv : env (.const (.int k n)) = .int k n := by
              have := hop (.const (.int k n)) (by simp [Op.operands]) (.c (.int k n)) (.int k n) (by simp [lowerOpd, ofValue, ofCell]) rfl
              exact rel_intv this
            exact key rfl (by simp [Instr.makeMap, run_underlying hu, henv, asInt, asIntOf])
          · cases hl
        | _ => simp [lowerOp] at hl
      | _ => simp [lowerOp] at hl
  | lookup t M K ok =>
    simp only [lowerOp] at hl
    split at hl
    case h_2 => cases hl
    rename_i kt et hu
    split at hl
    case h_2 => cases hl
    rename_i c z a b e1 e2 e3 e4
    cases hl
    obtain ⟨d, hd1, hd2⟩ := keyKind_spec e1
    obtain ⟨zv, hz1, hz2⟩ := zeroV_spec e2 w
    simp only [evalO] at he
    split at he
    case h_2 => cases he
    rename_i mo xv f1 f2
    rw [Option.map_eq_some_iff] at he
    obtain ⟨v0, hv0, he⟩ := he
    cases he
    unfold lookA at hv0
    split at hv0
    · split at hv0
      case isFalse => cases hv0
      rename_i hc
      cases hv0
      obtain ⟨v', q1, q2⟩ := lookup_none_ok (ρ := ρ) hu hd1 hd2 hz1 (hz2 ρ) (hop M (by simp [Op.operands]) _ _ e3 f1) (hop K (by simp [Op.operands]) _ _ e4 f2) hc ok
      exact OpOk.pure H (run_v q1) q2
    · split at hv0
      case h_2 => cases hv0
      rename_i cells clk bs hblk
      split at hv0
      case isFalse => cases hv0
      rename_i hc
      split at hv0
      · rename_i i v hf
        cases hv0
        obtain ⟨v', q1, q2⟩ := lookup_some_ok H hu hd1 hd2 hz1 (hz2 ρ) hblk (hop M (by simp [Op.operands]) _ _ e3 f1) (hop K (by simp [Op.operands]) _ _ e4 f2) hc hf ok
        exact OpOk.pure H (run_v q1) q2
      · rename_i hf
        cases hv0
        obtain ⟨v', q1, q2⟩ := lookup_some_ok H hu hd1 hd2 hz1 (hz2 ρ) hblk (hop M (by simp [Op.operands]) _ _ e3 f1) (hop K (by simp [Op.operands]) _ _ e4 f2) hc hf ok
        exact OpOk.pure H (run_v q1) q2
      · cases hv0
  | mapUpdate t M K V =>
    simp only [lowerOp] at hl
    split at hl
    case h_2 => cases hl
    rename_i kt et hu
    split at hl
    case h_2 => cases hl
    rename_i c a b x e1 e2 e3 e4
    cases hl
    obtain ⟨d, hd1, hd2⟩ := keyKind_spec e1
    simp only [evalO] at he
    split at he
    case h_2 => cases he
    rename_i bb xv yv f1 f2 f3
    split at he
    case h_2 => cases he
    rename_i cells clk bs hblk
    split at he
    case isFalse => cases he
    rename_i hc
    rw [Option.map_eq_some_iff] at he
    obtain ⟨l, hset, he⟩ := he
    cases he
    obtain ⟨w', q1, q2, q3⟩ := mapUpd_ok (P := P) H hu hd1 hd2 hblk (hop M (by simp [Op.operands]) _ _ e2 f1) (hop K (by simp [Op.operands]) _ _ e3 f2) (hop V (by simp [Op.operands]) _ _ e4 f3) hc hset
    refine ⟨.skip, undef, w', ρ, ?_, .inr ⟨rfl, rfl⟩, .tuple _ _ .nil, q2, q3⟩
    simp [execOp, q1]
  | insert t M K V =>
    simp only [lowerOp] at hl
    split at hl
    case h_2 => cases hl
    rename_i kt et hu
    split at hl
    case h_2 => cases hl
    rename_i c a b x e1 e2 e3 e4
    cases hl
    obtain ⟨d, hd1, hd2⟩ := keyKind_spec e1
    simp only [evalO] at he
    split at he
    case h_2 => cases he
    rename_i bb xv yv f1 f2 f3
    split at he
    case h_2 => cases he
    rename_i cells clk bs hblk
    split at he
    case isFalse => cases he
    rename_i hc
    rw [Option.map_eq_some_iff] at he
    obtain ⟨l, hset, he⟩ := he
    cases he
    obtain ⟨w', q1, q2, q3⟩ := mapUpd_ok (P := P) H hu hd1 hd2 hblk (hop M (by simp [Op.operands]) _ _ e2 f1) (hop K (by simp [Op.operands]) _ _ e3 f2) (hop V (by simp [Op.operands]) _ _ e4 f3) hc hset
    refine ⟨.skip, undef, w', ρ, ?_, .inr ⟨rfl, rfl⟩, .tuple _ _ .nil, q2, q3⟩
    simp [execOp, q1]
  | range t M =>
    simp only [lowerOp] at hl
    split at hl
    case h_2 => cases hl
    rename_i kt et hu
    rw [Option.map_eq_some_iff] at hl
    obtain ⟨a, e1, rfl⟩ := hl
    simp only [evalO] at he
    split at he
    · rename_i f1
      cases he
      obtain ⟨v', w', ρ', q1, q2, q3, q4⟩ := rangeMap_ok (P := P) H hu (hop M (by simp [Op.operands]) _ _ e1 f1) (clk := 0) (fun b e => by cases e) (fun _ => rfl)
      exact ⟨_, v', w', ρ', run_v q1, .inl rfl, q2, q3, q4⟩
    · rename_i b f1
      split at he
      case h_2 => cases he
      rename_i cells clk bs hb
      cases he
      obtain ⟨v', w', ρ', q1, q2, q3, q4⟩ := rangeMap_ok (P := P) H hu (hop M (by simp [Op.operands]) _ _ e1 f1) (clk := clk) (fun b e => by cases e; exact ⟨cells, bs, hb⟩) (fun e => by cases e)
      exact ⟨_, v', w', ρ', run_v q1, .inl rfl, q2, q3, q4⟩
    · cases he
  | next I str =>
    cases str with
    | true => simp [lowerOp] at hl
    | false =>
    simp only [lowerOp, Option.map_eq_some_iff] at hl
    obtain ⟨a, e1, rfl⟩ := hl
    simp only [evalO] at he
    split at he
    case h_2 => cases he
    rename_i r f1
    have rv := hop I (by simp [Op.operands]) _ _ e1 f1
    split at he
    · rename_i cs s sn la hr
      cases he
      cases hx : env I <;> rw [hx] at rv <;> cases rv
      rename_i l hl
      obtain ⟨m', k1, k2, k3, _⟩ := (H.blk r _ l hr hl).2.2.1 _ _ _ _ rfl
      obtain rfl := k3 rfl
      refine OpOk.pure H (v' := .tuple #[.bool false]) ?_ (.tuple _ _ (.cons _ _ _ _ (.bool _) .nil))
      have hg1 : (getObj l.row).run P w = .ok (.mapIter none s sn.toArray la) w := by simp [getObj, Sem.run, k1]
      simp [execOp, hx, Instr.next, k2, hg1]
    · rename_i cs b since seen last hr
      split at he
      case h_2 => cases he
      rename_i cells clk bs hb
      rw [Option.map_eq_some_iff] at he
      obtain ⟨⟨q, sn⟩, hq, he⟩ := he
      obtain ⟨v', w', q1, q2, q3, q4⟩ := nextMap_ok (P := P) H hr hb rv hq type
      cases sn with
      | none => cases he; exact ⟨_, v', w', ρ, run_v q1, .inl rfl, q2, q3, q4⟩
      | some sn => cases he; exact ⟨_, v', w', ρ, run_v q1, .inl rfl, q2, q3, q4⟩
    · cases he
  | entry I =>
    simp only [lowerOp, Option.map_eq_some_iff] at hl
    obtain ⟨a, e1, rfl⟩ := hl
    simp only [evalO] at he
    split at he
    case h_2 => cases he
    rename_i r f1
    have rv := hop I (by simp [Op.operands]) _ _ e1 f1
    split at he
    case h_2 => cases he
    rename_i cs b since seen last hr
    split at he
    case h_2 => cases he
    rename_i cells clk bs st hb hst
    split at he
    case isFalse => cases he
    rename_i hc
    subst hc
    rw [Option.map_eq_some_iff] at he
    obtain ⟨q, hq, he⟩ := he
    cases he
    obtain ⟨v', q1, q2⟩ := entryMap_ok (P := P) H hr hb rv hst hq
    exact OpOk.pure H (run_v q1) q2
  | _ => simp [lowerOp] at hl

end
end Go.Lite
