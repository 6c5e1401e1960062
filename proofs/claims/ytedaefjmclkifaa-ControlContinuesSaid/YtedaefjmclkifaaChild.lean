/- ControlChildren: what Child and Parent give, on both sides. No condition. -/
import Derived.Test.YtedaefjmclkifaaTbl
import Derived.Test.YtedaefjmclkifaaPi25
namespace Go.Proofs.Ytedaefjmclkifaa
open Go.PI
set_option maxRecDepth 100000
set_option maxHeartbeats 8000000
def tbl : TB := ⟨tblF, fun _ _ => none⟩
/-- a request, as these functions make it -/
structure Q where
  op : Int
  pid : Int
  pid2 : Int
  sig : Int
  n : Int
  flags : Int
  path : List UInt8
abbrev encQ (q : Q) : AV := .agg [.int .i64 q.op, .int .i64 0, .int .i64 0, .int .i64 q.pid, .int .i64 q.pid2, .int .i64 q.sig, .int .i64 q.n, .int .i64 q.flags, .str q.path, .str [], .e0, .e0]
structure La where
  group : Bool
  front : Bool
  ignore : List Int
  reset : List Int
  null : Bool
abbrev encLa (l : La) : AV := .agg [.bool l.group, .bool l.front, .sl 1 (l.ignore.map (.int .i64)), .sl 1 (l.reset.map (.int .i64)), .bool l.null]
theorem c9 : callW tbl 9 [] = some (.bool true, []) := callW_of tbl (k := 300) (by kernel_rfl)
theorem c28 : callW tbl 28 [.e0, .e0] = some (.bool true, []) := callW_of tbl (k := 30) (by kernel_rfl)
theorem c24 (g f : Bool) (i r : AV) (n : Bool) (p : Int) : callW tbl 24 [.agg [.bool g, .bool f, i, r, .bool n, .int .i64 p]] = some (.bool (f && p == 0), []) := by
  rw [call_run tbl (f := 24) (fn := f24) rfl _ rfl]
  simp [f24, f24body]
  cases f <;> simp
theorem c23 (q : Q) : callW tbl 23 [encQ q, encQ q] = some (.bool true, []) := by
  rw [call_run tbl (f := 23) (fn := f23) rfl _ rfl]
  simp [f23, f23body, c28]
theorem t11l (a : List Q) (hl : a.length ≤ 1000000) : ∀ (k i : Nat), i + k = a.length → run tbl (.cl [.tmp 4]) [.blk 0, .seq (.seq f11r10 .ret)] (.loop [12, 0, 1, 13] f11b9) [(12, .int .i64 a.length), (0, .sl 12 (a.map encQ)), (1, .sl 12 (a.map encQ)), (13, .int .i64 i)] [] = some (.bool true, [])
  | 0, i, h => by
    rw [run_loopD _ _ f11b9_eq]
    simp [show ¬ i < a.length by omega]
  | k + 1, i, h => by
    have hi : i < a.length := by omega
    have ih := t11l a hl k (i + 1) (by omega)
    have hc := c23 a[i]
    rw [Int.natCast_succ] at ih
    rw [run_loopD _ _ f11b9_eq]
    simp [hi, wrapS i (by omega), hc, ih]
theorem c11 (a : List Q) (hl : a.length ≤ 1000000) : callW tbl 11 [.sl 12 (a.map encQ), .sl 12 (a.map encQ)] = some (.bool true, []) := by
  rw [call_run tbl (f := 11) (fn := f11) rfl _ rfl]
  have := t11l a hl a.length 0 (by omega)
  simp [f11, f11body] at this ⊢
  exact this
end Go.Proofs.Ytedaefjmclkifaa
