/- The law ParamChooses: its function. No condition. -/
import Derived.Test.YtmlmijmnekdkpaaDoorPa
namespace Go.Proofs.YtmlmijmnekdkpaaDoor
open Go.PI
set_option maxRecDepth 100000
set_option maxHeartbeats 8000000
set_option linter.unusedSimpArgs false
def chs (op : Int) (colon set : Bool) (v : List UInt8) : Int :=
  if (!set || (colon && v == [])) = true then (if op = 1 then 1 else if op = 2 then 3 else if op = 3 then 4 else if op = 4 then 2 else 0) else if op = 4 then 1 else 0
theorem c15 (op : Int) (colon set : Bool) (v : List UInt8) : callW tbl 15 [.int .i64 op, .bool colon, .bool set, .str v] = some (.int .i64 (chs op colon set v), []) := by
  rw [call_run tbl (f := 15) (fn := f15) rfl _ rfl]
  unfold chs
  by_cases h1 : op = 1
  · subst h1
    cases set <;> cases colon <;> (cases hv : v == []) <;> simp [f15, f15body, hv]
  · by_cases h2 : op = 2
    · subst h2
      cases set <;> cases colon <;> (cases hv : v == []) <;> simp [f15, f15body, hv]
    · by_cases h3 : op = 3
      · subst h3
        cases set <;> cases colon <;> (cases hv : v == []) <;> simp [f15, f15body, hv]
      · by_cases h4 : op = 4
        · subst h4
          cases set <;> cases colon <;> (cases hv : v == []) <;> simp [f15, f15body, hv]
        · cases set <;> cases colon <;> (cases hv : v == []) <;> simp [f15, f15body, hv, h1, h2, h3, h4]
theorem c16 (op : Int) (colon set : Bool) (v : List UInt8) : callW tbl 16 [.int .i64 op, .bool colon, .bool set, .str v] = some (.int .i64 (chs op colon set v), []) := by
  rw [call_run tbl (f := 16) (fn := f16) rfl _ rfl]
  unfold chs
  by_cases h1 : op = 1
  · subst h1
    cases set <;> cases colon <;> (cases hv : v == []) <;> simp [f16, f16body, hv]
  · by_cases h2 : op = 2
    · subst h2
      cases set <;> cases colon <;> (cases hv : v == []) <;> simp [f16, f16body, hv]
    · by_cases h3 : op = 3
      · subst h3
        cases set <;> cases colon <;> (cases hv : v == []) <;> simp [f16, f16body, hv]
      · by_cases h4 : op = 4
        · subst h4
          cases set <;> cases colon <;> (cases hv : v == []) <;> simp [f16, f16body, hv]
        · cases set <;> cases colon <;> (cases hv : v == []) <;> simp [f16, f16body, hv, h1, h2, h3, h4]
theorem c17 (v : List UInt8) : callW tbl 17 [.str v] = some (.int .i64 v.length, []) := by
  rw [call_run tbl (f := 17) (fn := f17) rfl _ rfl]
  simp [f17, f17body]
theorem c4 (op : Int) (a b : Bool) (v : List UInt8) : callW tbl 4 [.int .i64 op, .agg [.bool a, .bool b], .str v] = some (.bool true, []) := by
  rw [call_run tbl (f := 4) (fn := f4) rfl _ rfl]
  by_cases h : (300 : Int) < v.length
  · simp [f4, f4body, h, c10]
  · have h15 := c15 op a b v
    have h16 := c16 op a b v
    have h17 := c17 v
    generalize chs op a b v = q at h15 h16
    simp [f4, f4body, h, h15, h16, h17, c10]
end Go.Proofs.YtmlmijmnekdkpaaDoor
