/- Statuses: Kind, Shell and Describe, on both sides; the laws on them. No condition. -/
import Derived.Test.YtgcidbdffjgemaaDoorSt2
import Derived.Lib.ItoaLen
namespace Go.Proofs.YtgcidbdffjgemaaDoor
open Go.PI
set_option maxRecDepth 100000
set_option maxHeartbeats 8000000
set_option linter.unusedSimpArgs false
/-- kind and value -/
def kd (n : Int) : Int × Int :=
  if n < 0 ∨ 768 < n then (-1, 0) else if (n / 256 = 1 ∨ n / 256 = 2) ∧ (n % 256 < 1 ∨ 20 < n % 256) then (-1, 0) else (n / 256, n % 256)
abbrev outK (r : Int × Int) : Option (AV × List AO) := some (.tup [.int .i64 r.1, .int .i64 r.2], [])
theorem c17 (n : Int) (hn : n ≤ 9223372036854775807) : callW tbl 17 [.int .i64 n] = outK (kd n) := by
  rw [call_run tbl (f := 17) (fn := f17) rfl _ rfl]
  unfold kd
  by_cases h0 : n < 0
  · simp [f17, f17body, h0]
  · have e1 := td_pos n (by omega)
    have e2 := tm_pos n (by omega)
    have w1 := wrap64 (n / 256) (by omega) (by omega)
    by_cases k0 : n / 256 = 0
    · rw [if_neg (by omega), if_neg (by omega)]
      simp [f17, f17body, h0, e1, e2, w1, k0]
    by_cases k1 : n / 256 = 1
    · rw [if_neg (by omega)]
      by_cases v1 : 1 ≤ n % 256
      · by_cases v2 : n % 256 ≤ 20
        · rw [if_neg (by omega)]
          simp [f17, f17body, h0, e1, e2, w1, k1, v1, v2]
        · rw [if_pos (by omega)]
          simp [f17, f17body, h0, e1, e2, w1, k1, v1, v2]
      · rw [if_pos (by omega)]
        simp [f17, f17body, h0, e1, e2, w1, k1, v1]
    by_cases k2 : n / 256 = 2
    · rw [if_neg (by omega)]
      by_cases v1 : 1 ≤ n % 256
      · by_cases v2 : n % 256 ≤ 20
        · rw [if_neg (by omega)]
          simp [f17, f17body, h0, e1, e2, w1, k2, v1, v2]
        · rw [if_pos (by omega)]
          simp [f17, f17body, h0, e1, e2, w1, k2, v1, v2]
      · rw [if_pos (by omega)]
        simp [f17, f17body, h0, e1, e2, w1, k2, v1]
    by_cases k3 : n / 256 = 3
    · by_cases v0 : n % 256 = 0
      · rw [if_neg (by omega), if_neg (by omega)]
        simp [f17, f17body, h0, e1, e2, w1, k3, v0]
      · rw [if_pos (by omega)]
        simp [f17, f17body, h0, e1, e2, w1, k3, v0]
    · rw [if_pos (by omega)]
      simp [f17, f17body, h0, e1, e2, w1, k0, k1, k2, k3]
theorem c18 (n : Int) : callW tbl 18 [.int .i64 n] = outK (kd n) := by
  rw [call_run tbl (f := 18) (fn := f18) rfl _ rfl]
  unfold kd
  by_cases h0 : n < 0
  · simp [f18, f18body, h0]
  · by_cases h7 : 768 < n
    · simp [f18, f18body, h0, h7]
    · have e1 := td_pos n (by omega)
      have e2 := tm_pos n (by omega)
      have w1 := wrap64 (n / 256) (by omega) (by omega)
      rw [if_neg (by omega)]
      by_cases k1 : n / 256 = 1
      · by_cases v1 : n % 256 < 1
        · rw [if_pos (by omega)]
          simp [f18, f18body, h0, h7, e1, e2, w1, k1, v1]
        · by_cases v2 : 20 < n % 256
          · rw [if_pos (by omega)]
            simp [f18, f18body, h0, h7, e1, e2, w1, k1, v1, v2]
          · rw [if_neg (by omega)]
            simp [f18, f18body, h0, h7, e1, e2, w1, k1, v1, v2]
      · by_cases k2 : n / 256 = 2
        · by_cases v1 : n % 256 < 1
          · rw [if_pos (by omega)]
            simp [f18, f18body, h0, h7, e1, e2, w1, k2, v1]
          · by_cases v2 : 20 < n % 256
            · rw [if_pos (by omega)]
              simp [f18, f18body, h0, h7, e1, e2, w1, k2, v1, v2]
            · rw [if_neg (by omega)]
              simp [f18, f18body, h0, h7, e1, e2, w1, k2, v1, v2]
        · rw [if_neg (by omega)]
          simp [f18, f18body, h0, h7, e1, e2, w1, k1, k2]
theorem kd_cases (n : Int) : kd n = (-1, 0) ∨ (∃ v, kd n = (0, v) ∧ 0 ≤ v ∧ v < 256 ∧ n = v) ∨ (∃ v, kd n = (1, v) ∧ 1 ≤ v ∧ v ≤ 20 ∧ n = 256 + v) ∨ (∃ v, kd n = (2, v) ∧ 1 ≤ v ∧ v ≤ 20 ∧ n = 512 + v) ∨ (kd n = (3, 0) ∧ n = 768) := by
  unfold kd
  split
  · exact .inl rfl
  · split
    · exact .inl rfl
    · by_cases k0 : n / 256 = 0
      · exact .inr (.inl ⟨n % 256, by rw [k0], by omega, by omega, by omega⟩)
      · by_cases k1 : n / 256 = 1
        · exact .inr (.inr (.inl ⟨n % 256, by rw [k1], by omega, by omega, by omega⟩))
        · by_cases k2 : n / 256 = 2
          · exact .inr (.inr (.inr (.inl ⟨n % 256, by rw [k2], by omega, by omega, by omega⟩)))
          · exact .inr (.inr (.inr (.inr ⟨by rw [show n = 768 by omega]; rfl, by omega⟩)))
def sh (r : Int × Int) : Int := if r.1 = 0 then r.2 else if r.1 = 1 ∨ r.1 = 2 then 128 + r.2 else if r.1 = 3 then 0 else 255
theorem c19 (n : Int) (hn : n ≤ 9223372036854775807) : callW tbl 19 [.int .i64 n] = some (.int .i64 (sh (kd n)), []) := by
  rw [call_run tbl (f := 19) (fn := f19) rfl _ rfl]
  have h := c17 n hn
  rcases kd_cases n with e | ⟨v, e, h1, h2, _⟩ | ⟨v, e, h1, h2, _⟩ | ⟨v, e, h1, h2, _⟩ | ⟨e, _⟩ <;> rw [e] at h ⊢
  · simp [f19, f19body, h, sh]
  · simp [f19, f19body, h, sh]
  · have w := wrap64 (128 + v) (by omega) (by omega)
    simp [f19, f19body, h, sh, w]
  · have w := wrap64 (128 + v) (by omega) (by omega)
    simp [f19, f19body, h, sh, w]
  · simp [f19, f19body, h, sh]
theorem c20 (n : Int) : callW tbl 20 [.int .i64 n] = some (.int .i64 (sh (kd n)), []) := by
  rw [call_run tbl (f := 20) (fn := f20) rfl _ rfl]
  have h := c18 n
  rcases kd_cases n with e | ⟨v, e, h1, h2, _⟩ | ⟨v, e, h1, h2, _⟩ | ⟨v, e, h1, h2, _⟩ | ⟨e, _⟩ <;> rw [e] at h ⊢
  · simp [f20, f20body, h, sh]
  · simp [f20, f20body, h, sh]
  · have w := wrap64 (128 + v) (by omega) (by omega)
    simp [f20, f20body, h, sh, w]
  · have w := wrap64 (128 + v) (by omega) (by omega)
    simp [f20, f20body, h, sh, w]
  · simp [f20, f20body, h, sh]
/-- the words for the signals -/
def wd (v : Int) : List UInt8 := match v with
  | 1 => [72, 85, 80] | 2 => [73, 78, 84] | 3 => [81, 85, 73, 84] | 4 => [84, 84, 73, 78] | 5 => [84, 84, 79, 85] | 9 => [75, 73, 76, 76] | 10 => [85, 83, 82, 49] | 12 => [85, 83, 82, 50] | 13 => [80, 73, 80, 69]
  | 14 => [65, 76, 82, 77] | 15 => [84, 69, 82, 77] | 17 => [67, 72, 76, 68] | 18 => [67, 79, 78, 84] | 19 => [83, 84, 79, 80] | 20 => [84, 83, 84, 80]
  | v => [83, 105, 103, 110, 97, 108, 32] ++ Lib.itoa v
def dsc (r : Int × Int) : List UInt8 := if r.1 = 0 then (if r.2 = 0 then [68, 111, 110, 101] else [69, 120, 105, 116, 32] ++ Lib.itoa r.2) else if r.1 = 1 then wd r.2 else if r.1 = 2 then [83, 116, 111, 112, 112, 101, 100] else if r.1 = 3 then [82, 117, 110, 110, 105, 110, 103] else []
theorem one_of (v : Int) (h1 : 1 ≤ v) (h2 : v ≤ 20) : v = 1 ∨ v = 2 ∨ v = 3 ∨ v = 4 ∨ v = 5 ∨ v = 6 ∨ v = 7 ∨ v = 8 ∨ v = 9 ∨ v = 10 ∨ v = 11 ∨ v = 12 ∨ v = 13 ∨ v = 14 ∨ v = 15 ∨ v = 16 ∨ v = 17 ∨ v = 18 ∨ v = 19 ∨ v = 20 := by omega
theorem c21 (n : Int) (hn : n ≤ 9223372036854775807) : callW tbl 21 [.int .i64 n] = some (.str (dsc (kd n)), []) := by
  have h := c17 n hn
  rcases kd_cases n with e | ⟨v, e, h1, h2, _⟩ | ⟨v, e, h1, h2, rfl⟩ | ⟨v, e, h1, h2, _⟩ | ⟨e, _⟩
  · rw [call_run tbl (f := 21) (fn := f21) rfl _ rfl]
    rw [e] at h ⊢
    simp [f21, f21body, h, dsc]
  · rw [call_run tbl (f := 21) (fn := f21) rfl _ rfl]
    rw [e] at h ⊢
    have hi := c26 v (by omega) (by omega)
    by_cases v0 : v = 0
    · simp [f21, f21body, h, dsc, v0]
    · have hl : 5 + (Lib.itoa v).length ≤ maxStr := by
        have := Lib.itoa_length_le v (by omega) (by omega)
        unfold maxStr
        omega
      simp [f21, f21body, h, dsc, v0, hi, hl]
  · rcases one_of v h1 h2 with rfl | rfl | rfl | rfl | rfl | rfl | rfl | rfl | rfl | rfl | rfl | rfl | rfl | rfl | rfl | rfl | rfl | rfl | rfl | rfl <;> exact callW_of tbl (k := 300) (by kernel_rfl)
  · rw [call_run tbl (f := 21) (fn := f21) rfl _ rfl]
    rw [e] at h ⊢
    simp [f21, f21body, h, dsc]
  · rw [call_run tbl (f := 21) (fn := f21) rfl _ rfl]
    rw [e] at h ⊢
    simp [f21, f21body, h, dsc]
theorem c22 (n : Int) : callW tbl 22 [.int .i64 n] = some (.str (dsc (kd n)), []) := by
  have h := c18 n
  rcases kd_cases n with e | ⟨v, e, h1, h2, _⟩ | ⟨v, e, h1, h2, rfl⟩ | ⟨v, e, h1, h2, _⟩ | ⟨e, _⟩
  · rw [call_run tbl (f := 22) (fn := f22) rfl _ rfl]
    rw [e] at h ⊢
    simp [f22, f22body, h, dsc]
  · rw [call_run tbl (f := 22) (fn := f22) rfl _ rfl]
    rw [e] at h ⊢
    have hi := c26 v (by omega) (by omega)
    by_cases v0 : v = 0
    · simp [f22, f22body, h, dsc, v0]
    · have hl : 5 + (Lib.itoa v).length ≤ maxStr := by
        have := Lib.itoa_length_le v (by omega) (by omega)
        unfold maxStr
        omega
      simp [f22, f22body, h, dsc, v0, hi, hl]
  · rcases one_of v h1 h2 with rfl | rfl | rfl | rfl | rfl | rfl | rfl | rfl | rfl | rfl | rfl | rfl | rfl | rfl | rfl | rfl | rfl | rfl | rfl | rfl <;> exact callW_of tbl (k := 300) (by kernel_rfl)
  · rw [call_run tbl (f := 22) (fn := f22) rfl _ rfl]
    rw [e] at h ⊢
    simp [f22, f22body, h, dsc]
  · rw [call_run tbl (f := 22) (fn := f22) rfl _ rfl]
    rw [e] at h ⊢
    simp [f22, f22body, h, dsc]
theorem c4 (n : Int) (hn : n ≤ 9223372036854775807) : callW tbl 4 [.int .i64 n] = some (.bool true, []) := by
  rw [call_run tbl (f := 4) (fn := f4) rfl _ rfl]
  simp [f4, f4body, c17 n hn, c18, c19 n hn, c20, c21 n hn, c22, c16]
theorem kd_ex (v : Int) (h1 : 0 ≤ v) (h2 : v < 256) : kd v = (0, v) := by
  unfold kd
  rw [if_neg (by omega), if_neg (by omega), show v / 256 = 0 by omega, show v % 256 = v by omega]
theorem kd_k1 (v : Int) (h1 : 1 ≤ v) (h2 : v ≤ 20) : kd (256 + v) = (1, v) := by
  unfold kd
  rw [if_neg (by omega), if_neg (by omega), show (256 + v) / 256 = 1 by omega, show (256 + v) % 256 = v by omega]
theorem kd_k2 (v : Int) (h1 : 1 ≤ v) (h2 : v ≤ 20) : kd (512 + v) = (2, v) := by
  unfold kd
  rw [if_neg (by omega), if_neg (by omega), show (512 + v) / 256 = 2 by omega, show (512 + v) % 256 = v by omega]
theorem wrapU8 (n : Int) : IntKind.u8.wrap n = n % 256 := by
  unfold IntKind.wrap
  simp [IntKind.bits, IntKind.signed]
theorem c5 (n s : Int) : callW tbl 5 [.int .i64 n, .int .i64 s] = some (.bool true, []) := by
  rw [call_run tbl (f := 5) (fn := f5) rfl _ rfl]
  have k0 := kd_ex (n % 256) (by omega) (by omega)
  have h17 := c17 (n % 256) (by omega)
  have h19 := c19 (n % 256) (by omega)
  rw [k0] at h17 h19
  have w := wrap64 (n % 256) (by omega) (by omega)
  by_cases h1 : s < 1
  · simp [f5, f5body, c8, h17, h19, sh, wrapU8, w, show ¬ n % 256 < 0 by omega, show ¬ 255 < n % 256 by omega, h1, c10, c12, sg, c16]
  · by_cases h2 : 20 < s
    · simp [f5, f5body, c8, h17, h19, sh, wrapU8, w, show ¬ n % 256 < 0 by omega, show ¬ 255 < n % 256 by omega, h1, h2, c10, c12, sg, c16]
    · have a17 := c17 (256 + s) (by omega)
      have a19 := c19 (256 + s) (by omega)
      have b17 := c17 (512 + s) (by omega)
      have b19 := c19 (512 + s) (by omega)
      have d17 := c17 768 (by omega)
      rw [kd_k1 s (by omega) (by omega)] at a17 a19
      rw [kd_k2 s (by omega) (by omega)] at b17 b19
      rw [show kd 768 = (3, 0) from rfl] at d17
      have w2 := wrap64 (128 + s) (by omega) (by omega)
      simp [f5, f5body, c8, h17, h19, sh, wrapU8, w, w2, show ¬ n % 256 < 0 by omega, show ¬ 255 < n % 256 by omega, h1, h2, c10, c12, sg, a17, a19, b17, b19, d17, c14, c16]
theorem dsc_empty (n : Int) : (dsc (kd n) = []) ↔ ((kd n).1 = -1) := by
  rcases kd_cases n with e | ⟨v, e, h1, h2, _⟩ | ⟨v, e, h1, h2, rfl⟩ | ⟨v, e, h1, h2, _⟩ | ⟨e, _⟩ <;> rw [e]
  · simp [dsc]
  · by_cases v0 : v = 0 <;> simp [dsc, v0]
  · rcases one_of v h1 h2 with rfl | rfl | rfl | rfl | rfl | rfl | rfl | rfl | rfl | rfl | rfl | rfl | rfl | rfl | rfl | rfl | rfl | rfl | rfl | rfl <;> simp [dsc, wd]
  · simp [dsc]
  · simp [dsc]
theorem kd_inj {a b : Int} (h : (kd a).1 ≠ -1) (h1 : (kd a).1 = (kd b).1) (h2 : (kd a).2 = (kd b).2) : a = b := by
  rcases kd_cases a with e | ⟨v, e, _, _, _⟩ | ⟨v, e, _, _, _⟩ | ⟨v, e, _, _, _⟩ | ⟨e, _⟩ <;> rcases kd_cases b with e' | ⟨v', e', _, _, _⟩ | ⟨v', e', _, _, _⟩ | ⟨v', e', _, _, _⟩ | ⟨e', _⟩ <;> rw [e, e'] at h1 h2 <;> rw [e] at h <;> simp at h h1 h2 <;> omega
theorem c6 (a b : Int) (ha : a ≤ 9223372036854775807) (hb : b ≤ 9223372036854775807) : callW tbl 6 [.int .i64 a, .int .i64 b] = some (.bool true, []) := by
  rw [call_run tbl (f := 6) (fn := f6) rfl _ rfl]
  have h1 := c17 a ha
  have h2 := c17 b hb
  have h3 := c21 a ha
  have hd := dsc_empty a
  by_cases hk : (kd a).1 = -1
  · have h0 : kd a = (-1, 0) := by
      rcases kd_cases a with e | ⟨v, e, _, _, _⟩ | ⟨v, e, _, _, _⟩ | ⟨v, e, _, _, _⟩ | ⟨e, _⟩
      · exact e
      all_goals rw [e] at hk; simp at hk
    rw [hd.2 hk] at h3
    rw [h0] at h1
    simp [f6, f6body, h1, h2, h3, c16]
  · have hr : ¬ (kd a).1 < -1 ∧ ¬ 3 < (kd a).1 := by
      rcases kd_cases a with e | ⟨v, e, _, _, _⟩ | ⟨v, e, _, _, _⟩ | ⟨v, e, _, _, _⟩ | ⟨e, _⟩ <;> rw [e] <;> simp
    have hn : ¬ dsc (kd a) = [] := fun e => hk (hd.1 e)
    have hi := @kd_inj a b hk
    generalize dsc (kd a) = t at h3 hn
    generalize hp : kd a = p at h1 hk hr hi
    generalize hq : kd b = q at h2 hi
    clear hd
    obtain ⟨p1, p2⟩ := p
    obtain ⟨q1, q2⟩ := q
    simp at h1 h2 hk hr hi
    have hk' : (p1 == -1) = false := by simpa using hk
    have hn' : t.isEmpty = false := by cases t with | nil => exact absurd rfl hn | cons => rfl
    by_cases e1 : p1 = q1
    · subst e1
      by_cases e2 : p2 = q2
      · obtain rfl := hi rfl e2
        subst e2
        simp [f6, f6body, h1, h3, show ¬ p1 < -1 by omega, show ¬ 3 < p1 by omega, hk, hn, hk', hn', c16]
      · simp [f6, f6body, h1, h2, h3, show ¬ p1 < -1 by omega, show ¬ 3 < p1 by omega, hk, hn, hk', hn', e2, c16]
    · simp [f6, f6body, h1, h2, h3, show ¬ p1 < -1 by omega, show ¬ 3 < p1 by omega, hk, hn, hk', hn', e1, c16]
end Go.Proofs.YtgcidbdffjgemaaDoor
