/- SignalNames: what Name, Default and Number give, on both sides. No condition. -/
import Derived.Test.YtlkfejigeeddaaaDoorSg
namespace Go.Proofs.YtlkfejigeeddaaaDoor
open Go.PI
set_option maxRecDepth 100000
set_option maxHeartbeats 8000000
set_option linter.unusedSimpArgs false
def nm (n : Int) : List UInt8 := match n with
  | 1 => [72, 85, 80] | 2 => [73, 78, 84] | 3 => [81, 85, 73, 84] | 4 => [84, 84, 73, 78] | 5 => [84, 84, 79, 85] | 9 => [75, 73, 76, 76] | 10 => [85, 83, 82, 49] | 12 => [85, 83, 82, 50] | 13 => [80, 73, 80, 69] | 14 => [65, 76, 82, 77] | 15 => [84, 69, 82, 77] | 17 => [67, 72, 76, 68] | 18 => [67, 79, 78, 84] | 19 => [83, 84, 79, 80] | 20 => [84, 83, 84, 80] | _ => []
theorem nm_out (n : Int) (h : n < 0 ∨ 21 ≤ n) : nm n = [] := by
  unfold nm
  split <;> first | omega | rfl
theorem c13 (n : Int) : callW tbl 13 [.int .i64 n] = some (.str (nm n), []) := by
  by_cases h0 : n < 0
  · rw [call_run tbl (f := 13) (fn := f13) rfl _ rfl, nm_out n (.inl h0)]
    simp [f13, f13body, h0]
  · by_cases h1 : 21 ≤ n
    · rw [call_run tbl (f := 13) (fn := f13) rfl _ rfl, nm_out n (.inr h1)]
      simp [f13, f13body, h0, h1]
    · have h : n = 0 ∨ n = 1 ∨ n = 2 ∨ n = 3 ∨ n = 4 ∨ n = 5 ∨ n = 6 ∨ n = 7 ∨ n = 8 ∨ n = 9 ∨ n = 10 ∨ n = 11 ∨ n = 12 ∨ n = 13 ∨ n = 14 ∨ n = 15 ∨ n = 16 ∨ n = 17 ∨ n = 18 ∨ n = 19 ∨ n = 20 := by omega
      rcases h with rfl | rfl | rfl | rfl | rfl | rfl | rfl | rfl | rfl | rfl | rfl | rfl | rfl | rfl | rfl | rfl | rfl | rfl | rfl | rfl | rfl <;> exact callW_of tbl (k := 50) (by kernel_rfl)
theorem c14 (n : Int) : callW tbl 14 [.int .i64 n] = some (.str (nm n), []) := by
  by_cases h0 : n < 0 ∨ 21 ≤ n
  · rw [call_run tbl (f := 14) (fn := f14) rfl _ rfl, nm_out n h0]
    simp [f14, f14body, show ¬ n = 1 by omega, show ¬ n = 2 by omega, show ¬ n = 3 by omega, show ¬ n = 4 by omega, show ¬ n = 5 by omega, show ¬ n = 9 by omega, show ¬ n = 10 by omega, show ¬ n = 12 by omega, show ¬ n = 13 by omega, show ¬ n = 14 by omega, show ¬ n = 15 by omega, show ¬ n = 17 by omega, show ¬ n = 18 by omega, show ¬ n = 19 by omega, show ¬ n = 20 by omega]
  · have h : n = 0 ∨ n = 1 ∨ n = 2 ∨ n = 3 ∨ n = 4 ∨ n = 5 ∨ n = 6 ∨ n = 7 ∨ n = 8 ∨ n = 9 ∨ n = 10 ∨ n = 11 ∨ n = 12 ∨ n = 13 ∨ n = 14 ∨ n = 15 ∨ n = 16 ∨ n = 17 ∨ n = 18 ∨ n = 19 ∨ n = 20 := by omega
    rcases h with rfl | rfl | rfl | rfl | rfl | rfl | rfl | rfl | rfl | rfl | rfl | rfl | rfl | rfl | rfl | rfl | rfl | rfl | rfl | rfl | rfl <;> exact callW_of tbl (k := 100) (by kernel_rfl)
/-- is it a signal? -/
def kn (n : Int) : Bool := decide (nm n ≠ [])
theorem c35 (n : Int) : callW tbl 35 [.int .i64 n] = some (.bool (kn n), []) := by
  rw [call_run tbl (f := 35) (fn := f35) rfl _ rfl]
  by_cases h : nm n = [] <;> simp [f35, f35body, c13, kn, h]
def stp' (n : Int) : Bool := decide (n = 19) || decide (n = 20) || decide (n = 4) || decide (n = 5)
theorem c34 (n : Int) : callW tbl 34 [.int .i64 n] = some (.bool (stp' n), []) := by
  rw [call_run tbl (f := 34) (fn := f34) rfl _ rfl]
  by_cases h1 : n = 19
  · simp [f34, f34body, stp', h1]
  by_cases h2 : n = 20
  · simp [f34, f34body, stp', h2]
  by_cases h3 : n = 4
  · simp [f34, f34body, stp', h3]
  by_cases h4 : n = 5
  · simp [f34, f34body, stp', h4]
  · simp [f34, f34body, stp', h1, h2, h3, h4]
theorem c36 (n : Int) : callW tbl 36 [.int .i64 n] = some (.bool (stp' n), []) := by
  rw [call_run tbl (f := 36) (fn := f36) rfl _ rfl]
  by_cases h1 : n = 19
  · simp [f36, f36body, stp', h1]
  by_cases h2 : n = 20
  · simp [f36, f36body, stp', h2]
  by_cases h3 : n = 4
  · simp [f36, f36body, stp', h3]
  by_cases h4 : n = 5
  · simp [f36, f36body, stp', h4]
  · simp [f36, f36body, stp', h1, h2, h3, h4]
def df (n : Int) : Int := if stp' n = true then 2 else if n = 18 then 3 else if n = 17 ∨ kn n = false then 0 else 1
theorem c15 (n : Int) : callW tbl 15 [.int .i64 n] = some (.int .i64 (df n), []) := by
  rw [call_run tbl (f := 15) (fn := f15) rfl _ rfl]
  by_cases h1 : stp' n = true
  · simp [f15, f15body, c34, df, h1]
  · by_cases h2 : n = 18
    · subst h2
      exact (call_run tbl (f := 15) (fn := f15) rfl _ rfl).symm.trans (callW_of tbl (k := 100) (by kernel_rfl))
    · by_cases h3 : n = 17
      · subst h3
        exact (call_run tbl (f := 15) (fn := f15) rfl _ rfl).symm.trans (callW_of tbl (k := 100) (by kernel_rfl))
      · simp at h1
        cases h4 : kn n <;> simp [f15, f15body, c34, c35, df, h1, h2, h3, h4]
theorem kn_stp (n : Int) (h : stp' n = true) : kn n = true ∧ n ≠ 17 ∧ n ≠ 18 := by
  simp [stp'] at h
  rcases h with ((rfl | rfl) | rfl) | rfl <;> decide
theorem c16 (n : Int) : callW tbl 16 [.int .i64 n] = some (.int .i64 (df n), []) := by
  rw [call_run tbl (f := 16) (fn := f16) rfl _ rfl]
  by_cases h1 : stp' n = true
  · obtain ⟨k1, k2, k3⟩ := kn_stp n h1
    have hn : nm n ≠ [] := by simpa [kn] using k1
    simp [f16, f16body, c14, c36, df, h1, hn, k2]
  · by_cases h2 : n = 18
    · subst h2
      exact (call_run tbl (f := 16) (fn := f16) rfl _ rfl).symm.trans (callW_of tbl (k := 100) (by kernel_rfl))
    · by_cases h3 : n = 17
      · subst h3
        exact (call_run tbl (f := 16) (fn := f16) rfl _ rfl).symm.trans (callW_of tbl (k := 100) (by kernel_rfl))
      · simp at h1
        by_cases h4 : nm n = [] <;> simp [f16, f16body, c14, c36, df, kn, h1, h2, h3, h4]
def nu (s : List UInt8) : Nat → Nat → Int × Bool
  | 0, _ => (0, false)
  | k + 1, i => if nm i ≠ [] ∧ (s = nm i ∨ s = Lib.itoa i) then ((i : Int), true) else nu s k (i + 1)
abbrev outN (r : Int × Bool) : Option (AV × List AO) := some (.tup [.int .i64 r.1, .bool r.2], [])
theorem t11 (s : List UInt8) : ∀ (k i : Nat), i + k = 21 → run tbl (.cl [.tmp 2, .tmp 3]) [.blk 0, .seq (f11r8.seq .ret)] (.loop [6, 0, 7] f11b7) [(6, (.agg [(.str []), (.str [72, 85, 80]), (.str [73, 78, 84]), (.str [81, 85, 73, 84]), (.str [84, 84, 73, 78]), (.str [84, 84, 79, 85]), (.str []), (.str []), (.str []), (.str [75, 73, 76, 76]), (.str [85, 83, 82, 49]), (.str []), (.str [85, 83, 82, 50]), (.str [80, 73, 80, 69]), (.str [65, 76, 82, 77]), (.str [84, 69, 82, 77]), (.str []), (.str [67, 72, 76, 68]), (.str [67, 79, 78, 84]), (.str [83, 84, 79, 80]), (.str [84, 83, 84, 80])])), (0, .str s), (7, .int .i64 i)] [] = outN (nu s k i)
  | 0, i, h => by
    obtain rfl : i = 21 := by omega
    rw [run_loopD _ _ f11b7_eq]
    simp [nu]
  | k + 1, i, h => by
    have ih := t11 s k (i + 1) (by omega)
    rw [Int.natCast_succ] at ih
    have hi := c33 i (by omega) (by omega)
    rw [run_loopD _ _ f11b7_eq, nu]
    have hh : i = 0 ∨ i = 1 ∨ i = 2 ∨ i = 3 ∨ i = 4 ∨ i = 5 ∨ i = 6 ∨ i = 7 ∨ i = 8 ∨ i = 9 ∨ i = 10 ∨ i = 11 ∨ i = 12 ∨ i = 13 ∨ i = 14 ∨ i = 15 ∨ i = 16 ∨ i = 17 ∨ i = 18 ∨ i = 19 ∨ i = 20 := by omega
    rcases hh with rfl | rfl | rfl | rfl | rfl | rfl | rfl | rfl | rfl | rfl | rfl | rfl | rfl | rfl | rfl | rfl | rfl | rfl | rfl | rfl | rfl
    · simp at ih
      simp [nm, ih]
    · by_cases e1 : s = [72, 85, 80]
      · subst e1
        simp [nm]
      · simp at hi ih
        by_cases e2 : s = Lib.itoa 1
        · subst e2
          simp [nm, e1, hi]
        · simp [nm, e1, e2, hi, ih]
    · by_cases e1 : s = [73, 78, 84]
      · subst e1
        simp [nm]
      · simp at hi ih
        by_cases e2 : s = Lib.itoa 2
        · subst e2
          simp [nm, e1, hi]
        · simp [nm, e1, e2, hi, ih]
    · by_cases e1 : s = [81, 85, 73, 84]
      · subst e1
        simp [nm]
      · simp at hi ih
        by_cases e2 : s = Lib.itoa 3
        · subst e2
          simp [nm, e1, hi]
        · simp [nm, e1, e2, hi, ih]
    · by_cases e1 : s = [84, 84, 73, 78]
      · subst e1
        simp [nm]
      · simp at hi ih
        by_cases e2 : s = Lib.itoa 4
        · subst e2
          simp [nm, e1, hi]
        · simp [nm, e1, e2, hi, ih]
    · by_cases e1 : s = [84, 84, 79, 85]
      · subst e1
        simp [nm]
      · simp at hi ih
        by_cases e2 : s = Lib.itoa 5
        · subst e2
          simp [nm, e1, hi]
        · simp [nm, e1, e2, hi, ih]
    · simp at ih
      simp [nm, ih]
    · simp at ih
      simp [nm, ih]
    · simp at ih
      simp [nm, ih]
    · by_cases e1 : s = [75, 73, 76, 76]
      · subst e1
        simp [nm]
      · simp at hi ih
        by_cases e2 : s = Lib.itoa 9
        · subst e2
          simp [nm, e1, hi]
        · simp [nm, e1, e2, hi, ih]
    · by_cases e1 : s = [85, 83, 82, 49]
      · subst e1
        simp [nm]
      · simp at hi ih
        by_cases e2 : s = Lib.itoa 10
        · subst e2
          simp [nm, e1, hi]
        · simp [nm, e1, e2, hi, ih]
    · simp at ih
      simp [nm, ih]
    · by_cases e1 : s = [85, 83, 82, 50]
      · subst e1
        simp [nm]
      · simp at hi ih
        by_cases e2 : s = Lib.itoa 12
        · subst e2
          simp [nm, e1, hi]
        · simp [nm, e1, e2, hi, ih]
    · by_cases e1 : s = [80, 73, 80, 69]
      · subst e1
        simp [nm]
      · simp at hi ih
        by_cases e2 : s = Lib.itoa 13
        · subst e2
          simp [nm, e1, hi]
        · simp [nm, e1, e2, hi, ih]
    · by_cases e1 : s = [65, 76, 82, 77]
      · subst e1
        simp [nm]
      · simp at hi ih
        by_cases e2 : s = Lib.itoa 14
        · subst e2
          simp [nm, e1, hi]
        · simp [nm, e1, e2, hi, ih]
    · by_cases e1 : s = [84, 69, 82, 77]
      · subst e1
        simp [nm]
      · simp at hi ih
        by_cases e2 : s = Lib.itoa 15
        · subst e2
          simp [nm, e1, hi]
        · simp [nm, e1, e2, hi, ih]
    · simp at ih
      simp [nm, ih]
    · by_cases e1 : s = [67, 72, 76, 68]
      · subst e1
        simp [nm]
      · simp at hi ih
        by_cases e2 : s = Lib.itoa 17
        · subst e2
          simp [nm, e1, hi]
        · simp [nm, e1, e2, hi, ih]
    · by_cases e1 : s = [67, 79, 78, 84]
      · subst e1
        simp [nm]
      · simp at hi ih
        by_cases e2 : s = Lib.itoa 18
        · subst e2
          simp [nm, e1, hi]
        · simp [nm, e1, e2, hi, ih]
    · by_cases e1 : s = [83, 84, 79, 80]
      · subst e1
        simp [nm]
      · simp at hi ih
        by_cases e2 : s = Lib.itoa 19
        · subst e2
          simp [nm, e1, hi]
        · simp [nm, e1, e2, hi, ih]
    · by_cases e1 : s = [84, 83, 84, 80]
      · subst e1
        simp [nm]
      · simp at hi ih
        by_cases e2 : s = Lib.itoa 20
        · subst e2
          simp [nm, e1, hi]
        · simp [nm, e1, e2, hi, ih]
theorem c11 (s : List UInt8) : callW tbl 11 [.str s] = outN (nu s 21 0) := by
  rw [call_run tbl (f := 11) (fn := f11) rfl _ rfl]
  have h := t11 s 21 0 (by omega)
  simp at h
  simp [f11, f11body, h]
theorem t12 (s : List UInt8) : ∀ (k i : Nat), i + k = 21 → 1 ≤ i → run tbl (.cl [.tmp 2, .tmp 3]) [.blk 0, .seq (f12r7.seq .ret)] (.loop [0, 4] f12b6) [(0, .str s), (4, .int .i64 i)] [] = outN (nu s k i)
  | 0, i, h, h1 => by
    obtain rfl : i = 21 := by omega
    rw [run_loopD _ _ f12b6_eq]
    simp [nu]
  | k + 1, i, h, h1 => by
    have ih := t12 s k (i + 1) (by omega) (by omega)
    rw [Int.natCast_succ] at ih
    have hi := c33 i (by omega) (by omega)
    have h14 := c14 i
    rw [run_loopD _ _ f12b6_eq, nu]
    by_cases e0 : nm i = []
    · rw [e0] at h14
      simp [e0, h14, show (i : Int) ≤ 20 by omega, wrapS i (by omega), ih]
    · by_cases e1 : s = nm i
      · rw [if_pos ⟨e0, .inl e1⟩]
        subst e1
        simp [e0, h14, show (i : Int) ≤ 20 by omega]
      · by_cases e2 : s = Lib.itoa i
        · rw [if_pos ⟨e0, .inr e2⟩]
          subst e2
          simp [e0, e1, h14, hi, show (i : Int) ≤ 20 by omega]
        · simp [e0, e1, e2, h14, hi, show (i : Int) ≤ 20 by omega, wrapS i (by omega), ih]
theorem c12 (s : List UInt8) : callW tbl 12 [.str s] = outN (nu s 21 0) := by
  rw [call_run tbl (f := 12) (fn := f12) rfl _ rfl]
  have h := t12 s 20 1 (by omega) (by omega)
  have e : nu s 21 0 = nu s 20 1 := by rw [nu, if_neg (by simp [nm])]
  rw [e]
  simp at h
  simp [f12, f12body, h]
theorem c3 (n : Int) (s : List UInt8) : callW tbl 3 [.int .i64 n, .str s] = some (.bool true, []) := by
  rw [call_run tbl (f := 3) (fn := f3) rfl _ rfl]
  by_cases h : (100 : Int) < s.length
  · simp [f3, f3body, h, c10]
  · simp [f3, f3body, h, c11, c12, c13, c14, c15, c16, c10]
end Go.Proofs.YtlkfejigeeddaaaDoor
