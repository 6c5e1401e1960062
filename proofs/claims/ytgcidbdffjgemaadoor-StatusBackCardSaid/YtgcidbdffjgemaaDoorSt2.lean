/- Statuses: what each function gives, on both sides. No condition. -/
import Derived.Test.YtgcidbdffjgemaaDoorSt
namespace Go.Proofs.YtgcidbdffjgemaaDoor
open Go.PI
set_option maxRecDepth 100000
set_option maxHeartbeats 8000000
set_option linter.unusedSimpArgs false
theorem tm_neg (n : Int) (h : n < 0) : n.tmod 256 = -((-n) % 256) := by
  have := Int.tmod_eq_emod_of_nonneg (a := -n) (b := 256) (by omega)
  rw [Int.neg_tmod] at this
  omega
theorem tm_pos (n : Int) (h : 0 ≤ n) : n.tmod 256 = n % 256 := Int.tmod_eq_emod_of_nonneg h
theorem td_pos (n : Int) (h : 0 ≤ n) : n.tdiv 256 = n / 256 := Int.tdiv_eq_ediv_of_nonneg h
theorem ex1 (n : Int) : (n.tmod 256 + 256).tmod 256 = n % 256 := by
  by_cases h : 0 ≤ n
  · rw [tm_pos n h, tm_pos _ (by omega)]; omega
  · rw [tm_neg n (by omega), tm_pos _ (by omega)]; omega
theorem tm_bd (n : Int) : -256 < n.tmod 256 ∧ n.tmod 256 < 256 := by
  by_cases h : 0 ≤ n
  · rw [tm_pos n h]; omega
  · rw [tm_neg n (by omega)]; omega
theorem c8 (n : Int) : callW tbl 8 [.int .i64 n] = some (.int .i64 (n % 256), []) := by
  rw [call_run tbl (f := 8) (fn := f8) rfl _ rfl]
  have hb := tm_bd n
  have w1 := wrap64 (n.tmod 256 + 256) (by omega) (by omega)
  have w2 := wrap64 (n % 256) (by omega) (by omega)
  simp [f8, f8body, w1, ex1, w2]
theorem c9 (n : Int) : callW tbl 9 [.int .i64 n] = some (.int .i64 (n % 256), []) := by
  rw [call_run tbl (f := 9) (fn := f9) rfl _ rfl]
  have hb := tm_bd n
  have w1 := wrap64 (n.tmod 256 + 256) (by omega) (by omega)
  by_cases h : n.tmod 256 < 0
  · have e : n.tmod 256 + 256 = n % 256 := by
      by_cases h0 : 0 ≤ n
      · rw [tm_pos n h0] at h; omega
      · rw [tm_neg n (by omega)] at h ⊢; omega
    have w2 := wrap64 (n % 256) (by omega) (by omega)
    simp [f9, f9body, h, w1, e, w2]
  · have e : n.tmod 256 = n % 256 := by
      by_cases h0 : 0 ≤ n
      · rw [tm_pos n h0]
      · rw [tm_neg n (by omega)] at h ⊢; omega
    simp [f9, f9body, h]
    exact e
def sg (b : Int) (n : Int) : Int := if n < 1 ∨ 20 < n then -1 else b + n
theorem c25 (k n : Int) (hk : k = 1 ∨ k = 2) : callW tbl 25 [.int .i64 k, .int .i64 n] = some (.int .i64 (sg (k * 256) n), []) := by
  rw [call_run tbl (f := 25) (fn := f25) rfl _ rfl]
  have w1 := wrap64 (k * 256) (by omega) (by omega)
  by_cases h1 : n < 1
  · simp [f25, f25body, sg, h1]
  · by_cases h2 : 20 < n
    · simp [f25, f25body, sg, h1, h2]
    · have w2 := wrap64 (k * 256 + n) (by omega) (by omega)
      simp [f25, f25body, sg, h1, h2, w1, w2]
theorem c10 (n : Int) : callW tbl 10 [.int .i64 n] = some (.int .i64 (sg 256 n), []) := by
  rw [call_run tbl (f := 10) (fn := f10) rfl _ rfl]
  have h := c25 1 n (.inl rfl)
  simp [f10, f10body, h]
theorem c12 (n : Int) : callW tbl 12 [.int .i64 n] = some (.int .i64 (sg 512 n), []) := by
  rw [call_run tbl (f := 12) (fn := f12) rfl _ rfl]
  have h := c25 2 n (.inr rfl)
  simp [f12, f12body, h]
theorem c11 (n : Int) : callW tbl 11 [.int .i64 n] = some (.int .i64 (sg 256 n), []) := by
  rw [call_run tbl (f := 11) (fn := f11) rfl _ rfl]
  by_cases h1 : n < 1
  · simp [f11, f11body, sg, h1]
  · by_cases h2 : 20 < n
    · simp [f11, f11body, sg, h1, h2]
    · have w2 := wrap64 (256 + n) (by omega) (by omega)
      simp [f11, f11body, sg, h1, h2, w2]
theorem c13 (n : Int) : callW tbl 13 [.int .i64 n] = some (.int .i64 (sg 512 n), []) := by
  rw [call_run tbl (f := 13) (fn := f13) rfl _ rfl]
  by_cases h1 : n < 1
  · simp [f13, f13body, sg, h1]
  · by_cases h2 : 20 < n
    · simp [f13, f13body, sg, h1, h2]
    · have w2 := wrap64 (512 + n) (by omega) (by omega)
      simp [f13, f13body, sg, h1, h2, w2]
theorem c14 : callW tbl 14 [] = some (.int .i64 768, []) := callW_of tbl (k := 50) (by kernel_rfl)
theorem c15 : callW tbl 15 [] = some (.int .i64 768, []) := callW_of tbl (k := 50) (by kernel_rfl)
theorem c3 (n s : Int) : callW tbl 3 [.int .i64 n, .int .i64 s] = some (.bool true, []) := by
  rw [call_run tbl (f := 3) (fn := f3) rfl _ rfl]
  simp [f3, f3body, c8, c9, c10, c11, c12, c13, c14, c15, c16]
theorem c23 (o n : Int) (b : Bool) : ∃ r, callW tbl 23 [.int .i64 o, .int .i64 n, .bool b] = some (.bool r, []) ∧ callW tbl 24 [.int .i64 o, .int .i64 n, .bool b] = some (.bool r, []) := by
  rw [call_run tbl (f := 23) (fn := f23) rfl _ rfl, call_run tbl (f := 24) (fn := f24) rfl _ rfl]
  by_cases h1 : abits .and .i64 o 1 = 0 <;> by_cases h2 : n = 0 <;> cases b <;> simp [f23, f23body, f24, f24body, h1, h2]
theorem c7 (o n : Int) (b : Bool) : callW tbl 7 [.int .i64 o, .int .i64 n, .bool b] = some (.bool true, []) := by
  rw [call_run tbl (f := 7) (fn := f7) rfl _ rfl]
  obtain ⟨r, h1, h2⟩ := c23 o n b
  simp [f7, f7body, h1, h2, c16]
end Go.Proofs.YtgcidbdffjgemaaDoor
