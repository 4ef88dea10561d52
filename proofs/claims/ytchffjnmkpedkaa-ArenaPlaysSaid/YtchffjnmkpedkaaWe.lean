/-
  SEP, part e: walking as one word: printed by a program of this session (wip/tools/mkgo.py).
-/
import Derived.Test.YtchffjnmkpedkaaWd
set_option linter.unusedSectionVars false
set_option linter.unusedSimpArgs false
set_option linter.unusedVariables false
namespace Go.Lite.Sep
set_option linter.unusedSectionVars false
set_option linter.unusedSimpArgs false
set_option linter.unusedVariables false
open Go.Lite

/-- What was read is there in each memory in which it may be read. -/
theorem RdsOk.go {hist : Hist} {rs : List RD} (h : RdsOk hist rs := by
  repeat (first
    | exact Go.Lite.Sep.RdsOk.nil
    | refine Go.Lite.Sep.RdsOk.cons ?_ ?_
    | exact Go.Lite.Sep.AllP.nil
    | refine Go.Lite.Sep.AllP.cons ?_ ?_
    | (apply Go.Lite.Sep.RdK.load; (first | exact Go.Lite.Sep.Rd.pts 0 rfl rfl rfl | exact Go.Lite.Sep.Rd.pts 1 rfl rfl rfl | exact Go.Lite.Sep.Rd.pts 2 rfl rfl rfl | exact Go.Lite.Sep.Rd.pts 3 rfl rfl rfl | exact Go.Lite.Sep.Rd.pts 4 rfl rfl rfl | exact Go.Lite.Sep.Rd.pts 5 rfl rfl rfl | exact Go.Lite.Sep.Rd.pts 6 rfl rfl rfl | exact Go.Lite.Sep.Rd.pts 7 rfl rfl rfl | exact Go.Lite.Sep.Rd.slb 0 rfl (by assumption) | exact Go.Lite.Sep.Rd.slb 1 rfl (by assumption) | exact Go.Lite.Sep.Rd.slb 2 rfl (by assumption) | exact Go.Lite.Sep.Rd.slb 3 rfl (by assumption) | exact Go.Lite.Sep.Rd.slb 4 rfl (by assumption) | exact Go.Lite.Sep.Rd.slb 5 rfl (by assumption) | exact Go.Lite.Sep.Rd.slb 6 rfl (by assumption) | exact Go.Lite.Sep.Rd.slb 7 rfl (by assumption) | exact Go.Lite.Sep.Rd.pts 0 rfl rfl (by assumption) | exact Go.Lite.Sep.Rd.pts 1 rfl rfl (by assumption) | exact Go.Lite.Sep.Rd.pts 2 rfl rfl (by assumption) | exact Go.Lite.Sep.Rd.pts 3 rfl rfl (by assumption) | exact Go.Lite.Sep.Rd.pts 4 rfl rfl (by assumption) | exact Go.Lite.Sep.Rd.pts 5 rfl rfl (by assumption) | exact Go.Lite.Sep.Rd.pts 6 rfl rfl (by assumption) | exact Go.Lite.Sep.Rd.pts 7 rfl rfl (by assumption) | assumption); (first | rfl | (focus (simp [Go.Lite.AV.beq]; done)) | assumption))
    | (apply Go.Lite.Sep.RdK.loads; (first | exact Go.Lite.Sep.Rds.pts 0 rfl rfl (by assumption) (by assumption) | exact Go.Lite.Sep.Rds.pts 1 rfl rfl (by assumption) (by assumption) | exact Go.Lite.Sep.Rds.pts 2 rfl rfl (by assumption) (by assumption) | exact Go.Lite.Sep.Rds.pts 3 rfl rfl (by assumption) (by assumption) | exact Go.Lite.Sep.Rds.pts 4 rfl rfl (by assumption) (by assumption) | exact Go.Lite.Sep.Rds.pts 5 rfl rfl (by assumption) (by assumption) | exact Go.Lite.Sep.Rds.pts 6 rfl rfl (by assumption) (by assumption) | exact Go.Lite.Sep.Rds.pts 7 rfl rfl (by assumption) (by assumption) | exact Go.Lite.Sep.Rds.slb 0 rfl (by assumption) (by assumption) | exact Go.Lite.Sep.Rds.slb 1 rfl (by assumption) (by assumption) | exact Go.Lite.Sep.Rds.slb 2 rfl (by assumption) (by assumption) | exact Go.Lite.Sep.Rds.slb 3 rfl (by assumption) (by assumption) | exact Go.Lite.Sep.Rds.slb 4 rfl (by assumption) (by assumption) | exact Go.Lite.Sep.Rds.slb 5 rfl (by assumption) (by assumption) | exact Go.Lite.Sep.Rds.slb 6 rfl (by assumption) (by assumption) | exact Go.Lite.Sep.Rds.slb 7 rfl (by assumption) (by assumption) | assumption); (first | rfl | (focus (simp [Go.Lite.AV.beq]; done)) | assumption)))) : RdsOk hist rs := h
/-- A word that stands for another one. -/
structure Box (p : Prop) : Prop where
  out : p
/-- From here, the text is walked as far as nothing is to be said. -/
theorem go {G' G : Prop} (next : G') (h : Box G' → G := by
  intro k
  repeat (first
    | refine Go.Lite.Sep.WP.seq ?_
    | refine Go.Lite.Sep.WP.block ?_
    | refine Go.Lite.Sep.WP.nil ?_
    | refine Go.Lite.Sep.seqQ_n ?_
    | refine Go.Lite.Sep.blockQ_n ?_
    | (apply Go.Lite.Sep.WP.add; exact rfl; exact rfl; exact Go.Lite.wrap_id (by omega) (by omega))
    | (apply Go.Lite.Sep.WP.sub; exact rfl; exact rfl; exact Go.Lite.wrap_id (by omega) (by omega))
    | (apply Go.Lite.Sep.WP.mul; exact rfl; exact rfl; exact Go.Lite.wrap_id (by omega) (by omega))
    | (apply Go.Lite.Sep.WP.conv; exact rfl; exact Go.Lite.wrap_id (by omega) (by omega))
    | (apply Go.Lite.Sep.WP.conv; exact rfl; assumption)
    | (apply Go.Lite.Sep.WP.lss_t; exact rfl; exact rfl; omega)
    | (apply Go.Lite.Sep.WP.lss_f; exact rfl; exact rfl; omega)
    | (apply Go.Lite.Sep.WP.leq_t; exact rfl; exact rfl; omega)
    | (apply Go.Lite.Sep.WP.leq_f; exact rfl; exact rfl; omega)
    | (apply Go.Lite.Sep.WP.gtr_t; exact rfl; exact rfl; omega)
    | (apply Go.Lite.Sep.WP.gtr_f; exact rfl; exact rfl; omega)
    | (apply Go.Lite.Sep.WP.geq_t; exact rfl; exact rfl; omega)
    | (apply Go.Lite.Sep.WP.geq_f; exact rfl; exact rfl; omega)
    | (apply Go.Lite.Sep.WP.eql_t; exact rfl; exact rfl; omega)
    | (apply Go.Lite.Sep.WP.eql_f; exact rfl; exact rfl; omega)
    | (apply Go.Lite.Sep.WP.neq_t; exact rfl; exact rfl; omega)
    | (apply Go.Lite.Sep.WP.neq_f; exact rfl; exact rfl; omega)
    | (apply Go.Lite.Sep.WP.binv; exact rfl; exact rfl; assumption)
    | (apply Go.Lite.Sep.WP.eqv; exact rfl; exact rfl; assumption)
    | (apply Go.Lite.Sep.WP.pickT; exact rfl; exact rfl; exact rfl)
    | (apply Go.Lite.Sep.WP.pickF; exact rfl; exact rfl; exact rfl)
    | (apply Go.Lite.Sep.WP.notT; exact rfl)
    | (apply Go.Lite.Sep.WP.notF; exact rfl)
    | (apply Go.Lite.Sep.WP.eq0; exact rfl; exact rfl; exact rfl)
    | (apply Go.Lite.Sep.WP.eq1; exact rfl; exact rfl; exact rfl)
    | (apply Go.Lite.Sep.WP.mov; exact rfl)
    | (apply Go.Lite.Sep.WP.const; exact rfl)
    | (apply Go.Lite.Sep.WP.nilCheck; exact rfl)
    | (apply Go.Lite.Sep.WP.fieldAddr; exact rfl)
    | (apply Go.Lite.Sep.WP.extract; exact rfl)
    | (apply Go.Lite.Sep.WP.len; exact rfl)
    | (apply Go.Lite.Sep.WP.pick; exact rfl)
    | (apply Go.Lite.Sep.WP.eq; exact rfl)
    | (apply Go.Lite.Sep.WP.un; exact rfl)
    | (apply Go.Lite.Sep.WP.bin; exact rfl)
    | (apply Go.Lite.Sep.WP.convInt; exact rfl)
    | (apply Go.Lite.Sep.WP.field; exact rfl)
    | (apply Go.Lite.Sep.WP.minmax; exact rfl)
    | (apply Go.Lite.Sep.WP.cap; exact rfl)
    | (apply Go.Lite.Sep.WP.makeFunc; exact rfl)
    | (apply Go.Lite.Sep.WP.convId; exact rfl)
    | (apply Go.Lite.Sep.WP.slice; exact rfl)
    | (apply Go.Lite.Sep.WP.build; exact rfl)
    | (apply Go.Lite.Sep.WP.load; exact rfl; (show Go.Lite.Sep.Rd _ _ _ _); (first | exact Go.Lite.Sep.Rd.pts 0 rfl rfl rfl | exact Go.Lite.Sep.Rd.pts 1 rfl rfl rfl | exact Go.Lite.Sep.Rd.pts 2 rfl rfl rfl | exact Go.Lite.Sep.Rd.pts 3 rfl rfl rfl | exact Go.Lite.Sep.Rd.pts 4 rfl rfl rfl | exact Go.Lite.Sep.Rd.pts 5 rfl rfl rfl | exact Go.Lite.Sep.Rd.pts 6 rfl rfl rfl | exact Go.Lite.Sep.Rd.pts 7 rfl rfl rfl | exact Go.Lite.Sep.Rd.slb 0 rfl (by assumption) | exact Go.Lite.Sep.Rd.slb 1 rfl (by assumption) | exact Go.Lite.Sep.Rd.slb 2 rfl (by assumption) | exact Go.Lite.Sep.Rd.slb 3 rfl (by assumption) | exact Go.Lite.Sep.Rd.slb 4 rfl (by assumption) | exact Go.Lite.Sep.Rd.slb 5 rfl (by assumption) | exact Go.Lite.Sep.Rd.slb 6 rfl (by assumption) | exact Go.Lite.Sep.Rd.slb 7 rfl (by assumption) | exact Go.Lite.Sep.Rd.pts 0 rfl rfl (by assumption) | exact Go.Lite.Sep.Rd.pts 1 rfl rfl (by assumption) | exact Go.Lite.Sep.Rd.pts 2 rfl rfl (by assumption) | exact Go.Lite.Sep.Rd.pts 3 rfl rfl (by assumption) | exact Go.Lite.Sep.Rd.pts 4 rfl rfl (by assumption) | exact Go.Lite.Sep.Rd.pts 5 rfl rfl (by assumption) | exact Go.Lite.Sep.Rd.pts 6 rfl rfl (by assumption) | exact Go.Lite.Sep.Rd.pts 7 rfl rfl (by assumption) | assumption))
    | (apply Go.Lite.Sep.WP.loads; exact rfl; (first | exact Go.Lite.Sep.Rds.pts 0 rfl rfl (by assumption) (by assumption) | exact Go.Lite.Sep.Rds.pts 1 rfl rfl (by assumption) (by assumption) | exact Go.Lite.Sep.Rds.pts 2 rfl rfl (by assumption) (by assumption) | exact Go.Lite.Sep.Rds.pts 3 rfl rfl (by assumption) (by assumption) | exact Go.Lite.Sep.Rds.pts 4 rfl rfl (by assumption) (by assumption) | exact Go.Lite.Sep.Rds.pts 5 rfl rfl (by assumption) (by assumption) | exact Go.Lite.Sep.Rds.pts 6 rfl rfl (by assumption) (by assumption) | exact Go.Lite.Sep.Rds.pts 7 rfl rfl (by assumption) (by assumption) | exact Go.Lite.Sep.Rds.slb 0 rfl (by assumption) (by assumption) | exact Go.Lite.Sep.Rds.slb 1 rfl (by assumption) (by assumption) | exact Go.Lite.Sep.Rds.slb 2 rfl (by assumption) (by assumption) | exact Go.Lite.Sep.Rds.slb 3 rfl (by assumption) (by assumption) | exact Go.Lite.Sep.Rds.slb 4 rfl (by assumption) (by assumption) | exact Go.Lite.Sep.Rds.slb 5 rfl (by assumption) (by assumption) | exact Go.Lite.Sep.Rds.slb 6 rfl (by assumption) (by assumption) | exact Go.Lite.Sep.Rds.slb 7 rfl (by assumption) (by assumption) | assumption))
    | (apply Go.Lite.Sep.WP.index; exact rfl; exact rfl; omega)
    | (apply Go.Lite.Sep.WP.indexP; exact rfl; exact rfl; omega)
    | (apply Go.Lite.Sep.WP.indexA; exact rfl; exact rfl; omega; assumption)
    | (apply Go.Lite.Sep.WP.slicev; exact rfl; exact rfl; exact rfl; exact rfl; exact rfl; exact rfl; exact rfl; assumption)
    | refine Go.Lite.Sep.WP.skip ?_
    | refine Go.Lite.Sep.WP.exit ?_
    | refine Go.Lite.Sep.WP.ret ?_
    | refine Go.Lite.Sep.seqQ_r ?_
    | refine Go.Lite.Sep.seqQ_e ?_
    | refine Go.Lite.Sep.blockQ_r ?_
    | refine Go.Lite.Sep.blockQ_e ?_
    | refine Go.Lite.Sep.blockQ_o rfl ?_
    | refine Go.Lite.Sep.loopQ_r ?_
    | refine Go.Lite.Sep.loopQ_e ?_
    | refine Go.Lite.Sep.midQ_r ?_
    | refine Go.Lite.Sep.midQ_e ?_
    | (apply Go.Lite.Sep.WP.guard_y; exact rfl)
    | (apply Go.Lite.Sep.WP.guard_n; exact rfl; exact rfl)
    | (apply Go.Lite.Sep.WP.cond_t; exact rfl; exact rfl)
    | (apply Go.Lite.Sep.WP.cond_f; exact rfl; exact rfl)
    | (refine Go.Lite.Sep.WP.dreg ?_; (show Go.Lite.Sep.WD _ _ _ _ _ _ _ _ _); (repeat (first | (apply Go.Lite.Sep.WD.add; exact rfl; exact rfl; exact Go.Lite.wrap_id (by omega) (by omega)) | (apply Go.Lite.Sep.WD.sub; exact rfl; exact rfl; exact Go.Lite.wrap_id (by omega) (by omega)) | (apply Go.Lite.Sep.WD.mul; exact rfl; exact rfl; exact Go.Lite.wrap_id (by omega) (by omega)) | (apply Go.Lite.Sep.WD.conv; exact rfl; exact Go.Lite.wrap_id (by omega) (by omega)) | (apply Go.Lite.Sep.WD.conv; exact rfl; assumption) | (apply Go.Lite.Sep.WD.lss_t; exact rfl; exact rfl; omega) | (apply Go.Lite.Sep.WD.lss_f; exact rfl; exact rfl; omega) | (apply Go.Lite.Sep.WD.leq_t; exact rfl; exact rfl; omega) | (apply Go.Lite.Sep.WD.leq_f; exact rfl; exact rfl; omega) | (apply Go.Lite.Sep.WD.gtr_t; exact rfl; exact rfl; omega) | (apply Go.Lite.Sep.WD.gtr_f; exact rfl; exact rfl; omega) | (apply Go.Lite.Sep.WD.geq_t; exact rfl; exact rfl; omega) | (apply Go.Lite.Sep.WD.geq_f; exact rfl; exact rfl; omega) | (apply Go.Lite.Sep.WD.eql_t; exact rfl; exact rfl; omega) | (apply Go.Lite.Sep.WD.eql_f; exact rfl; exact rfl; omega) | (apply Go.Lite.Sep.WD.neq_t; exact rfl; exact rfl; omega) | (apply Go.Lite.Sep.WD.neq_f; exact rfl; exact rfl; omega) | (apply Go.Lite.Sep.WD.binv; exact rfl; exact rfl; assumption) | (apply Go.Lite.Sep.WD.eqv; exact rfl; exact rfl; assumption) | (apply Go.Lite.Sep.WD.pickT; exact rfl; exact rfl; exact rfl) | (apply Go.Lite.Sep.WD.pickF; exact rfl; exact rfl; exact rfl) | (apply Go.Lite.Sep.WD.notT; exact rfl) | (apply Go.Lite.Sep.WD.notF; exact rfl) | (apply Go.Lite.Sep.WD.eq0; exact rfl; exact rfl; exact rfl) | (apply Go.Lite.Sep.WD.eq1; exact rfl; exact rfl; exact rfl) | (apply Go.Lite.Sep.WD.mov; exact rfl) | (apply Go.Lite.Sep.WD.const; exact rfl) | (apply Go.Lite.Sep.WD.nilCheck; exact rfl) | (apply Go.Lite.Sep.WD.fieldAddr; exact rfl) | (apply Go.Lite.Sep.WD.extract; exact rfl) | (apply Go.Lite.Sep.WD.len; exact rfl) | (apply Go.Lite.Sep.WD.pick; exact rfl) | (apply Go.Lite.Sep.WD.eq; exact rfl) | (apply Go.Lite.Sep.WD.un; exact rfl) | (apply Go.Lite.Sep.WD.bin; exact rfl) | (apply Go.Lite.Sep.WD.convInt; exact rfl) | (apply Go.Lite.Sep.WD.field; exact rfl) | (apply Go.Lite.Sep.WD.minmax; exact rfl) | (apply Go.Lite.Sep.WD.cap; exact rfl) | (apply Go.Lite.Sep.WD.makeFunc; exact rfl) | (apply Go.Lite.Sep.WD.convId; exact rfl) | (apply Go.Lite.Sep.WD.slice; exact rfl) | (apply Go.Lite.Sep.WD.build; exact rfl) | (apply Go.Lite.Sep.WD.ld; exact rfl; (show Go.Lite.Sep.Rd _ _ _ _); (first | exact Go.Lite.Sep.Rd.pts 0 rfl rfl rfl | exact Go.Lite.Sep.Rd.pts 1 rfl rfl rfl | exact Go.Lite.Sep.Rd.pts 2 rfl rfl rfl | exact Go.Lite.Sep.Rd.pts 3 rfl rfl rfl | exact Go.Lite.Sep.Rd.pts 4 rfl rfl rfl | exact Go.Lite.Sep.Rd.pts 5 rfl rfl rfl | exact Go.Lite.Sep.Rd.pts 6 rfl rfl rfl | exact Go.Lite.Sep.Rd.pts 7 rfl rfl rfl | exact Go.Lite.Sep.Rd.slb 0 rfl (by assumption) | exact Go.Lite.Sep.Rd.slb 1 rfl (by assumption) | exact Go.Lite.Sep.Rd.slb 2 rfl (by assumption) | exact Go.Lite.Sep.Rd.slb 3 rfl (by assumption) | exact Go.Lite.Sep.Rd.slb 4 rfl (by assumption) | exact Go.Lite.Sep.Rd.slb 5 rfl (by assumption) | exact Go.Lite.Sep.Rd.slb 6 rfl (by assumption) | exact Go.Lite.Sep.Rd.slb 7 rfl (by assumption) | exact Go.Lite.Sep.Rd.pts 0 rfl rfl (by assumption) | exact Go.Lite.Sep.Rd.pts 1 rfl rfl (by assumption) | exact Go.Lite.Sep.Rd.pts 2 rfl rfl (by assumption) | exact Go.Lite.Sep.Rd.pts 3 rfl rfl (by assumption) | exact Go.Lite.Sep.Rd.pts 4 rfl rfl (by assumption) | exact Go.Lite.Sep.Rd.pts 5 rfl rfl (by assumption) | exact Go.Lite.Sep.Rd.pts 6 rfl rfl (by assumption) | exact Go.Lite.Sep.Rd.pts 7 rfl rfl (by assumption) | assumption)) | (apply Go.Lite.Sep.WD.lds; exact rfl; (first | exact Go.Lite.Sep.Rds.pts 0 rfl rfl (by assumption) (by assumption) | exact Go.Lite.Sep.Rds.pts 1 rfl rfl (by assumption) (by assumption) | exact Go.Lite.Sep.Rds.pts 2 rfl rfl (by assumption) (by assumption) | exact Go.Lite.Sep.Rds.pts 3 rfl rfl (by assumption) (by assumption) | exact Go.Lite.Sep.Rds.pts 4 rfl rfl (by assumption) (by assumption) | exact Go.Lite.Sep.Rds.pts 5 rfl rfl (by assumption) (by assumption) | exact Go.Lite.Sep.Rds.pts 6 rfl rfl (by assumption) (by assumption) | exact Go.Lite.Sep.Rds.pts 7 rfl rfl (by assumption) (by assumption) | exact Go.Lite.Sep.Rds.slb 0 rfl (by assumption) (by assumption) | exact Go.Lite.Sep.Rds.slb 1 rfl (by assumption) (by assumption) | exact Go.Lite.Sep.Rds.slb 2 rfl (by assumption) (by assumption) | exact Go.Lite.Sep.Rds.slb 3 rfl (by assumption) (by assumption) | exact Go.Lite.Sep.Rds.slb 4 rfl (by assumption) (by assumption) | exact Go.Lite.Sep.Rds.slb 5 rfl (by assumption) (by assumption) | exact Go.Lite.Sep.Rds.slb 6 rfl (by assumption) (by assumption) | exact Go.Lite.Sep.Rds.slb 7 rfl (by assumption) (by assumption) | assumption)) | (apply Go.Lite.Sep.WD.index; exact rfl; exact rfl; omega) | (apply Go.Lite.Sep.WD.indexP; exact rfl; exact rfl; omega) | (apply Go.Lite.Sep.WD.indexA; exact rfl; exact rfl; omega; assumption) | (apply Go.Lite.Sep.WD.slicev; exact rfl; exact rfl; exact rfl; exact rfl; exact rfl; exact rfl; exact rfl; assumption) | (apply Go.Lite.Sep.WD.guard_y; exact rfl) | (apply Go.Lite.Sep.WD.guard_n; exact rfl; exact rfl; exact rfl) | (apply Go.Lite.Sep.WD.guard_nl; exact rfl; exact rfl; exact rfl) | fail)); refine Go.Lite.Sep.WD.nil Go.Lite.Sep.RdsOk.go ?_)
    | fail)
  exact k.out) : G := h ⟨next⟩
/-- The same in a region whose order is open. -/
theorem god {G' G : Prop} (next : G') (h : Box G' → G := by
  intro k
  (first | refine Go.Lite.Sep.WP.dreg ?_ | skip)
  (first | (show Go.Lite.Sep.WD _ _ _ _ _ _ _ _ _) | skip)
  repeat (first
    | (apply Go.Lite.Sep.WD.add; exact rfl; exact rfl; exact Go.Lite.wrap_id (by omega) (by omega))
    | (apply Go.Lite.Sep.WD.sub; exact rfl; exact rfl; exact Go.Lite.wrap_id (by omega) (by omega))
    | (apply Go.Lite.Sep.WD.mul; exact rfl; exact rfl; exact Go.Lite.wrap_id (by omega) (by omega))
    | (apply Go.Lite.Sep.WD.conv; exact rfl; exact Go.Lite.wrap_id (by omega) (by omega))
    | (apply Go.Lite.Sep.WD.conv; exact rfl; assumption)
    | (apply Go.Lite.Sep.WD.lss_t; exact rfl; exact rfl; omega)
    | (apply Go.Lite.Sep.WD.lss_f; exact rfl; exact rfl; omega)
    | (apply Go.Lite.Sep.WD.leq_t; exact rfl; exact rfl; omega)
    | (apply Go.Lite.Sep.WD.leq_f; exact rfl; exact rfl; omega)
    | (apply Go.Lite.Sep.WD.gtr_t; exact rfl; exact rfl; omega)
    | (apply Go.Lite.Sep.WD.gtr_f; exact rfl; exact rfl; omega)
    | (apply Go.Lite.Sep.WD.geq_t; exact rfl; exact rfl; omega)
    | (apply Go.Lite.Sep.WD.geq_f; exact rfl; exact rfl; omega)
    | (apply Go.Lite.Sep.WD.eql_t; exact rfl; exact rfl; omega)
    | (apply Go.Lite.Sep.WD.eql_f; exact rfl; exact rfl; omega)
    | (apply Go.Lite.Sep.WD.neq_t; exact rfl; exact rfl; omega)
    | (apply Go.Lite.Sep.WD.neq_f; exact rfl; exact rfl; omega)
    | (apply Go.Lite.Sep.WD.binv; exact rfl; exact rfl; assumption)
    | (apply Go.Lite.Sep.WD.eqv; exact rfl; exact rfl; assumption)
    | (apply Go.Lite.Sep.WD.pickT; exact rfl; exact rfl; exact rfl)
    | (apply Go.Lite.Sep.WD.pickF; exact rfl; exact rfl; exact rfl)
    | (apply Go.Lite.Sep.WD.notT; exact rfl)
    | (apply Go.Lite.Sep.WD.notF; exact rfl)
    | (apply Go.Lite.Sep.WD.eq0; exact rfl; exact rfl; exact rfl)
    | (apply Go.Lite.Sep.WD.eq1; exact rfl; exact rfl; exact rfl)
    | (apply Go.Lite.Sep.WD.mov; exact rfl)
    | (apply Go.Lite.Sep.WD.const; exact rfl)
    | (apply Go.Lite.Sep.WD.nilCheck; exact rfl)
    | (apply Go.Lite.Sep.WD.fieldAddr; exact rfl)
    | (apply Go.Lite.Sep.WD.extract; exact rfl)
    | (apply Go.Lite.Sep.WD.len; exact rfl)
    | (apply Go.Lite.Sep.WD.pick; exact rfl)
    | (apply Go.Lite.Sep.WD.eq; exact rfl)
    | (apply Go.Lite.Sep.WD.un; exact rfl)
    | (apply Go.Lite.Sep.WD.bin; exact rfl)
    | (apply Go.Lite.Sep.WD.convInt; exact rfl)
    | (apply Go.Lite.Sep.WD.field; exact rfl)
    | (apply Go.Lite.Sep.WD.minmax; exact rfl)
    | (apply Go.Lite.Sep.WD.cap; exact rfl)
    | (apply Go.Lite.Sep.WD.makeFunc; exact rfl)
    | (apply Go.Lite.Sep.WD.convId; exact rfl)
    | (apply Go.Lite.Sep.WD.slice; exact rfl)
    | (apply Go.Lite.Sep.WD.build; exact rfl)
    | (apply Go.Lite.Sep.WD.ld; exact rfl; (show Go.Lite.Sep.Rd _ _ _ _); (first | exact Go.Lite.Sep.Rd.pts 0 rfl rfl rfl | exact Go.Lite.Sep.Rd.pts 1 rfl rfl rfl | exact Go.Lite.Sep.Rd.pts 2 rfl rfl rfl | exact Go.Lite.Sep.Rd.pts 3 rfl rfl rfl | exact Go.Lite.Sep.Rd.pts 4 rfl rfl rfl | exact Go.Lite.Sep.Rd.pts 5 rfl rfl rfl | exact Go.Lite.Sep.Rd.pts 6 rfl rfl rfl | exact Go.Lite.Sep.Rd.pts 7 rfl rfl rfl | exact Go.Lite.Sep.Rd.slb 0 rfl (by assumption) | exact Go.Lite.Sep.Rd.slb 1 rfl (by assumption) | exact Go.Lite.Sep.Rd.slb 2 rfl (by assumption) | exact Go.Lite.Sep.Rd.slb 3 rfl (by assumption) | exact Go.Lite.Sep.Rd.slb 4 rfl (by assumption) | exact Go.Lite.Sep.Rd.slb 5 rfl (by assumption) | exact Go.Lite.Sep.Rd.slb 6 rfl (by assumption) | exact Go.Lite.Sep.Rd.slb 7 rfl (by assumption) | exact Go.Lite.Sep.Rd.pts 0 rfl rfl (by assumption) | exact Go.Lite.Sep.Rd.pts 1 rfl rfl (by assumption) | exact Go.Lite.Sep.Rd.pts 2 rfl rfl (by assumption) | exact Go.Lite.Sep.Rd.pts 3 rfl rfl (by assumption) | exact Go.Lite.Sep.Rd.pts 4 rfl rfl (by assumption) | exact Go.Lite.Sep.Rd.pts 5 rfl rfl (by assumption) | exact Go.Lite.Sep.Rd.pts 6 rfl rfl (by assumption) | exact Go.Lite.Sep.Rd.pts 7 rfl rfl (by assumption) | assumption))
    | (apply Go.Lite.Sep.WD.lds; exact rfl; (first | exact Go.Lite.Sep.Rds.pts 0 rfl rfl (by assumption) (by assumption) | exact Go.Lite.Sep.Rds.pts 1 rfl rfl (by assumption) (by assumption) | exact Go.Lite.Sep.Rds.pts 2 rfl rfl (by assumption) (by assumption) | exact Go.Lite.Sep.Rds.pts 3 rfl rfl (by assumption) (by assumption) | exact Go.Lite.Sep.Rds.pts 4 rfl rfl (by assumption) (by assumption) | exact Go.Lite.Sep.Rds.pts 5 rfl rfl (by assumption) (by assumption) | exact Go.Lite.Sep.Rds.pts 6 rfl rfl (by assumption) (by assumption) | exact Go.Lite.Sep.Rds.pts 7 rfl rfl (by assumption) (by assumption) | exact Go.Lite.Sep.Rds.slb 0 rfl (by assumption) (by assumption) | exact Go.Lite.Sep.Rds.slb 1 rfl (by assumption) (by assumption) | exact Go.Lite.Sep.Rds.slb 2 rfl (by assumption) (by assumption) | exact Go.Lite.Sep.Rds.slb 3 rfl (by assumption) (by assumption) | exact Go.Lite.Sep.Rds.slb 4 rfl (by assumption) (by assumption) | exact Go.Lite.Sep.Rds.slb 5 rfl (by assumption) (by assumption) | exact Go.Lite.Sep.Rds.slb 6 rfl (by assumption) (by assumption) | exact Go.Lite.Sep.Rds.slb 7 rfl (by assumption) (by assumption) | assumption))
    | (apply Go.Lite.Sep.WD.index; exact rfl; exact rfl; omega)
    | (apply Go.Lite.Sep.WD.indexP; exact rfl; exact rfl; omega)
    | (apply Go.Lite.Sep.WD.indexA; exact rfl; exact rfl; omega; assumption)
    | (apply Go.Lite.Sep.WD.slicev; exact rfl; exact rfl; exact rfl; exact rfl; exact rfl; exact rfl; exact rfl; assumption)
    | (apply Go.Lite.Sep.WD.guard_y; exact rfl)
    | (apply Go.Lite.Sep.WD.guard_n; exact rfl; exact rfl; exact rfl)
    | (apply Go.Lite.Sep.WD.guard_nl; exact rfl; exact rfl; exact rfl)
    | fail)
  exact k.out) : G := h ⟨next⟩
/-- So much of what is known. -/
theorem LeE.go {L0 L : Env} (h : LeE L0 L := by
  repeat (first
    | exact Go.Lite.Sep.LeE.nil _
    | refine Go.Lite.Sep.LeE.cons2 rfl (by first | with_reducible rfl | assumption | (congr 1; omega) | simp | simp [*]) ?_)) : LeE L0 L := h
end Go.Lite.Sep
