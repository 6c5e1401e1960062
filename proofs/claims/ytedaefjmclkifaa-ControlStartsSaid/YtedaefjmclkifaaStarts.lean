/- ControlStarts: what the two Start functions give, by the options' one bit. No condition. -/
import Derived.Test.YtedaefjmclkifaaTbl
import Derived.Test.YtedaefjmclkifaaPi21
namespace Go.Proofs.Ytedaefjmclkifaa
open Go.PI
set_option maxRecDepth 100000
def envOf (n : Int) (t : Bool) : AV := .agg [.str [], .e0, .e0, .e0, .e0, .e0, .int .i64 n, .int .i64 0, .int .i64 0, .int .i64 0, .str [], .int .i64 0, .int .i64 0, .int .i64 0, .bool t]
def bitOf (m : Bool) : Int := if m then 64 else 0
def R7 (m t b : Bool) : AV × List AO := (callN tbl 60 7 [envOf (bitOf m) t, .bool b]).getD (.top, [])
def R8 (m t b : Bool) : AV × List AO := (callN tbl 60 8 [envOf (bitOf m) t, .bool b]).getD (.top, [])
theorem s7 (n : Int) (t b : Bool) : callW tbl 7 [envOf n t, .bool b] = some (R7 (abits BinOp.and IntKind.i64 n 64 != 0) t b) := by
  rw [call_eq tbl tbl7 _ rfl]
  rw [f7, f7body]
  rw [ex_seq, show exW tbl f7r0 (bindArgs 0 [envOf n t, .bool b]) [] = some _ from by simp [f7r0, envOf, ex_seq, ex_reg, ex_cond, runOps_nil, runOps_op, aop, bindArgs, Env.get, Env.put, OP.ev, okCells, scal, AV.cells, scrub, PI.part, abin, aint, afld, aload, pelem]; rfl]
  dsimp only
  rw [ex_seq, show exW tbl f7r1 _ _ = some _ from by simp [f7r1, ex_seq, ex_reg, ex_cond, runOps_nil, runOps_op, aop, bindArgs, Env.get, Env.put, OP.ev, okCells, scal, AV.cells, scrub, PI.part, abin, aint, afld, aload, pelem]; rfl]
  dsimp only
  generalize (abits BinOp.and IntKind.i64 n 64 != 0) = m
  cases m <;> cases t <;> cases b <;> exact rest_of tbl (k := 60) (by kernel_rfl)
theorem s8 (n : Int) (t b : Bool) : callW tbl 8 [envOf n t, .bool b] = some (R8 (abits BinOp.and IntKind.i64 n 64 != 0) t b) := by
  rw [call_eq tbl tbl8 _ rfl]
  rw [f8, f8body]
  rw [ex_seq, show exW tbl f8r0 (bindArgs 0 [envOf n t, .bool b]) [] = some _ from by simp [f8r0, envOf, ex_seq, ex_reg, ex_cond, runOps_nil, runOps_op, aop, bindArgs, Env.get, Env.put, OP.ev, okCells, scal, AV.cells, scrub, PI.part, abin, aint, afld, aload, pelem]; rfl]
  dsimp only
  rw [ex_seq, show exW tbl f8r1 _ _ = some _ from by simp [f8r1, ex_seq, ex_reg, ex_cond, runOps_nil, runOps_op, aop, bindArgs, Env.get, Env.put, OP.ev, okCells, scal, AV.cells, scrub, PI.part, abin, aint, afld, aload, pelem]; rfl]
  dsimp only
  generalize (abits BinOp.and IntKind.i64 n 64 != 0) = m
  cases m <;> cases t <;> cases b <;> exact rest_of tbl (k := 60) (by kernel_rfl)
theorem s3 (n : Int) (t b : Bool) : callW tbl 3 [.int .i64 n, .bool t, .bool b] = some (.bool true, []) := by
  rw [call_eq tbl tbl3 _ rfl]
  rw [f3, f3body]
  rw [ex_seq, show exW tbl f3r0 _ _ = some _ from by simp [f3r0, ex_seq, ex_reg, ex_cond, runOps_nil, runOps_op, aop, bindArgs, Env.get, Env.put, OP.ev, okCells, scal, AV.cells, scrub, PI.part, abin, aint, afld, aload, pelem]; rfl]
  dsimp only
  rw [ex_seq, show exW tbl f3r1 _ _ = some _ from by simp [f3r1, ex_seq, ex_reg, ex_cond, runOps_nil, runOps_op, aop, bindArgs, Env.get, Env.put, OP.ev, okCells, scal, AV.cells, scrub, PI.part, abin, aint, afld, aload, pelem, fillParts, splice, spl, astore]; rfl]
  dsimp only
  rw [ex_seq, f3r2, ex_reg]
  have h7 := s7 n t b
  have h8 := s8 n t b
  revert h7 h8
  generalize (abits BinOp.and IntKind.i64 n 64 != 0) = m
  intro h7 h8
  cases m <;> cases t <;> cases b <;>
    (rw [step_call tbl 60 2 rfl (by kernel_rfl) (by kernel_rfl) h7]
     rw [step_call tbl 60 2 rfl (by kernel_rfl) (by kernel_rfl) h8]
     exact tail_of tbl 60 (by kernel_rfl))
#print axioms s3
end Go.Proofs.Ytedaefjmclkifaa
