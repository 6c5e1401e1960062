/- RedirectAsks: what Ask gives, on both sides; the law's function returns true. No condition. -/
import Derived.Test.YtddcoboldcenkaaTbl
import Derived.Test.YtddcoboldcenkaaPi26
namespace Go.Proofs.Ytddcoboldcenkaa
open Go.PI
set_option maxRecDepth 100000
set_option maxHeartbeats 8000000
set_option linter.unusedSimpArgs false
def tbl : TB := ⟨tblF, fun _ _ => none⟩
structure Rq where
  op : Int
  fd : Int
  fd2 : Int
  n : Int
  flags : Int
  path : List UInt8
  data : List UInt8
abbrev encR (q : Rq) : AV := .agg [.int .i64 q.op, .int .i64 q.fd, .int .i64 q.fd2, .int .i64 0, .int .i64 0, .int .i64 0, .int .i64 q.n, .int .i64 q.flags, .str q.path, .str q.data, .e0, .e0]
structure Mv where
  kind : Int
  fd : Int
  src : Int
  flags : Int
  path : List UInt8
  text : List UInt8
abbrev encM (m : Mv) : AV := .agg [.int .i64 m.kind, .int .i64 m.fd, .int .i64 m.src, .int .i64 m.flags, .str m.path, .str m.text]
theorem c7 : callW tbl 7 [] = some (.bool true, []) := callW_of tbl (k := 500) (by kernel_rfl)
theorem c19 : callW tbl 19 [.e0, .e0] = some (.bool true, []) := callW_of tbl (k := 100) (by kernel_rfl)
theorem c15 (q : Rq) : callW tbl 15 [encR q, encR q] = some (.bool true, []) := by
  rw [call_run tbl (f := 15) (fn := f15) rfl _ rfl]
  simp [f15, f15body, c19]
def ask (m : Mv) : Rq × Bool :=
  if m.kind = 1 then (⟨3, 0, 0, m.fd, abits .or .i64 m.flags 64, m.path, []⟩, true)
  else if m.kind = 4 then (⟨24, 0, 0, m.fd, 64, [], m.text⟩, true)
  else if m.kind = 2 then (⟨5, m.src, m.fd, 0, 0, [], []⟩, true)
  else if m.kind = 3 then (⟨4, m.fd, 0, 0, 0, [], []⟩, true)
  else if m.kind = 5 then (⟨5, m.fd, -1, m.src, 0, [], []⟩, true)
  else if m.kind = 6 then (if m.src < 0 then (⟨4, m.fd, 0, 0, 0, [], []⟩, true) else (⟨25, m.src, m.fd, 0, 0, [], []⟩, true))
  else (⟨0, 0, 0, 0, 0, [], []⟩, false)
abbrev outA (r : Rq × Bool) : Option (AV × List AO) := some (.tup [encR r.1, .bool r.2], [])
theorem c13 (m : Mv) : callW tbl 13 [encM m] = outA (ask m) := by
  rw [call_run tbl (f := 13) (fn := f13) rfl _ rfl]
  unfold ask
  by_cases h1 : m.kind = 1
  · simp [f13, f13body, h1]
  by_cases h4 : m.kind = 4
  · simp [f13, f13body, h4]
  by_cases h2 : m.kind = 2
  · simp [f13, f13body, h2]
  by_cases h3 : m.kind = 3
  · simp [f13, f13body, h3]
  by_cases h5 : m.kind = 5
  · simp [f13, f13body, h5]
  by_cases h6 : m.kind = 6
  · by_cases h7 : m.src < 0 <;> simp [f13, f13body, h6, h7]
  · simp [f13, f13body, h1, h4, h2, h3, h5, h6]
theorem c14 (m : Mv) : callW tbl 14 [encM m] = outA (ask m) := by
  rw [call_run tbl (f := 14) (fn := f14) rfl _ rfl]
  unfold ask
  by_cases h1 : m.kind = 1
  · simp [f14, f14body, h1]
  by_cases h4 : m.kind = 4
  · simp [f14, f14body, h4]
  by_cases h2 : m.kind = 2
  · simp [f14, f14body, h2]
  by_cases h3 : m.kind = 3
  · simp [f14, f14body, h3]
  by_cases h5 : m.kind = 5
  · simp [f14, f14body, h5]
  by_cases h6 : m.kind = 6
  · by_cases h7 : m.src < 0 <;> simp [f14, f14body, h6, h7]
  · simp [f14, f14body, h1, h4, h2, h3, h5, h6]
theorem c5 (m : Mv) : callW tbl 5 [encM m] = some (.bool true, []) := by
  rw [call_run tbl (f := 5) (fn := f5) rfl _ rfl]
  have h13 := c13 m
  have h14 := c14 m
  have h15 := c15 (ask m).1
  simp [f5, f5body, h13, h14, h15, c7]
end Go.Proofs.Ytddcoboldcenkaa
