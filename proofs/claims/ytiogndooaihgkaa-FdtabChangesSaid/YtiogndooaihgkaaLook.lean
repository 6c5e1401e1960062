/- FdtabLooks: what Get, Free and Valid give, on both sides; the law's function returns true. No condition. -/
import Derived.Test.YtiogndooaihgkaaClone
namespace Go.Proofs.Ytiogndooaihgkaa
open Go.PI
set_option maxRecDepth 100000
set_option maxHeartbeats 8000000
set_option linter.unusedSimpArgs false
structure Fd where
  num : Int
  desc : Int
  clo : Bool
abbrev encF (x : Fd) : AV := .agg [.int .i64 x.num, .int .i64 x.desc, .bool x.clo]
abbrev z : Fd := ⟨0, 0, false⟩
@[simp] theorem set_concat {α : Type} (l : List α) (a b : α) : (l ++ [a]).set l.length b = l ++ [b] := by
  induction l with
  | nil => rfl
  | cons c l ih => simp [ih]
theorem c10 : callW tbl 10 [] = some (.bool true, []) := callW_of tbl (k := 500) (by kernel_rfl)
theorem c9 (l : List AV) : callW tbl 9 [.sl 3 l, .e0] = some (.bool (decide (l.length ≤ 60)), []) := by
  rw [call_run tbl (f := 9) (fn := f9) rfl _ rfl]
  by_cases h1 : (l.length : Int) ≤ 60 <;> simp [f9, f9body, h1] <;> omega
def getR : List Fd → Int → Fd × Bool
  | [], _ => (z, false)
  | x :: l, n => if x.num = n then (x, true) else getR l n
theorem getR_step {l : List Fd} {i : Nat} (n : Int) (h : i < l.length) : getR (l.drop i) n = if l[i].num = n then (l[i], true) else getR (l.drop (i + 1)) n := by rw [drop_step h]; rfl
abbrev outG (r : Fd × Bool) : Option (AV × List AO) := some (.tup [encF r.1, .bool r.2], [])
theorem t11 (l : List Fd) (hl : l.length ≤ 1000000) (n : Int) : ∀ (k i : Nat) (rest : List AO), i + k = l.length → run tbl (.cl [.cell 4 true 3, .tmp 5]) [.blk 0, .seq (f11r8.seq .ret)] (.loop [9, 8, 1, 10, 4] f11b7) [(9, .int .i64 l.length), (8, .sl 3 (l.map encF)), (1, .int .i64 n), (10, .int .i64 i), (4, .bptr 0 0)] (.box 26 3 (encF z) :: rest) = outG (getR (l.drop i) n)
  | 0, i, rest, h => by
    rw [run_loopD _ _ f11b7_eq]
    simp [show ¬ i < l.length by omega, show l.drop i = [] from List.drop_eq_nil_of_le (by omega), getR]
  | k + 1, i, rest, h => by
    have hi : i < l.length := by omega
    have ih := fun r => t11 l hl n k (i + 1) r (by omega)
    rw [Int.natCast_succ] at ih
    rw [run_loopD _ _ f11b7_eq, getR_step n hi]
    by_cases h2 : l[i].num = n <;> simp [hi, wrapS i (by omega), h2, ih]
theorem c11 (l : List Fd) (hl : l.length ≤ 1000000) (n : Int) : callW tbl 11 [.sl 3 (l.map encF), .int .i64 n] = outG (getR l n) := by
  rw [call_run tbl (f := 11) (fn := f11) rfl _ rfl]
  have h := t11 l hl n l.length 0 [] (by omega)
  simp at h
  simp [f11, f11body, h]
theorem t12 (l : List Fd) (hl : l.length ≤ 1000000) (n : Int) : ∀ (k i : Nat) (rest : List AO), i + k = l.length → run tbl (.cl [.cell 4 true 3, .tmp 5]) [.blk 0, .seq (f12r7.seq .ret)] (.loop [1, 0, 6, 4] f12b6) [(1, .int .i64 n), (0, .sl 3 (l.map encF)), (6, .int .i64 i), (4, .bptr 0 0)] (.box 26 3 (encF z) :: rest) = outG (getR (l.drop i) n)
  | 0, i, rest, h => by
    rw [run_loopD _ _ f12b6_eq]
    simp [show ¬ i < l.length by omega, show l.drop i = [] from List.drop_eq_nil_of_le (by omega), getR]
  | k + 1, i, rest, h => by
    have hi : i < l.length := by omega
    have ih := fun r => t12 l hl n k (i + 1) r (by omega)
    rw [Int.natCast_succ] at ih
    rw [run_loopD _ _ f12b6_eq, getR_step n hi]
    by_cases h2 : l[i].num = n <;> simp [hi, wrapS i (by omega), h2, ih]
theorem c12 (l : List Fd) (hl : l.length ≤ 1000000) (n : Int) : callW tbl 12 [.sl 3 (l.map encF), .int .i64 n] = outG (getR l n) := by
  rw [call_run tbl (f := 12) (fn := f12) rfl _ rfl]
  have h := t12 l hl n l.length 0 [] (by omega)
  simp at h
  simp [f12, f12body, h]
/-- the errors of a descriptor by itself -/
def chk (x : Fd) : Int := if x.num < 0 ∨ 32 ≤ x.num then 2 else if x.desc < 0 ∨ 128 ≤ x.desc then 1 else 0
theorem c32 (x : Fd) : callW tbl 32 [encF x] = some (.int .i64 (chk x), []) := by
  rw [call_run tbl (f := 32) (fn := f32) rfl _ rfl]
  by_cases h1 : x.num < 0 <;> by_cases h2 : 32 ≤ x.num <;> by_cases h3 : x.desc < 0 <;> by_cases h4 : 128 ≤ x.desc <;> simp [f32, f32body, chk, h1, h2, h3, h4]
theorem c33 (x : Fd) : callW tbl 33 [encF x] = some (.int .i64 (chk x), []) := by
  rw [call_run tbl (f := 33) (fn := f33) rfl _ rfl]
  by_cases h1 : x.num < 0 <;> by_cases h2 : 32 ≤ x.num <;> by_cases h3 : x.desc < 0 <;> by_cases h4 : 128 ≤ x.desc <;> simp [f33, f33body, chk, h1, h2, h3, h4]
/-- a list of descriptors, read -/
theorem fds {c : AV} (h : HasTy (.sl true [.int .i64, .int .i64, .bool]) c) : ∃ l : List Fd, c = .sl 3 (l.map encF) ∧ l.length ≤ maxLen ∧ ∀ x ∈ l, (Lit.int .i64 x.num).wf = true ∧ (Lit.int .i64 x.desc).wf = true :=
  HasTy.structs h (fun cs hl hj => by
    have h0 := Tys.of _ cs hl hj
    obtain ⟨_, _, rfl, k0, h0⟩ := h0.cons_inv
    obtain ⟨_, _, rfl, k1, h0⟩ := h0.cons_inv
    obtain ⟨_, _, rfl, k2, h0⟩ := h0.cons_inv
    obtain rfl := h0.nil_inv
    obtain ⟨a, rfl, wa⟩ := k0.int_inv
    obtain ⟨b, rfl, wb⟩ := k1.int_inv
    obtain ⟨d, rfl⟩ := k2.bool_inv
    exact ⟨⟨a, b, d⟩, rfl, wa, wb⟩)
def at0 (l : List Fd) (i : Nat) : Fd := (l[i]?).getD z
theorem at0_eq {l : List Fd} {i : Nat} (h : i < l.length) : at0 l i = l[i] := by unfold at0; rw [List.getElem?_eq_getElem h]; rfl
def vf (l : List Fd) : Nat → Nat → Int
  | 0, _ => 0
  | k + 1, i => if chk (at0 l i) ≠ 0 then chk (at0 l i) else if 0 < i ∧ (at0 l i).num ≤ (at0 l (i - 1)).num then 25 else vf l k (i + 1)
theorem wrapN (i : Nat) (h : i < 9223372036854775807) : IntKind.i64.wrap (i : Int) = i := wrap64 _ (by omega) (by omega)
theorem t15 (l : List Fd) (hl : l.length ≤ 1000000) : ∀ (k i : Nat) (rest : List AO), i + k = l.length → run tbl (.cl [.tmp 2]) [.blk 0, .seq (f15r11.seq .ret)] (.loop [8, 7, 6, 0] f15b10) [(8, .int .i64 i), (7, .int .i64 l.length), (6, .sl 3 (l.map encF)), (0, .sl 3 (l.map encF))] rest = some (.int .i64 (vf l k i), [])
  | 0, i, rest, h => by
    rw [run_loopD _ _ f15b10_eq]
    simp [show ¬ i < l.length by omega, vf]
  | k + 1, i, rest, h => by
    have hi : i < l.length := by omega
    have ih := fun r => t15 l hl k (i + 1) r (by omega)
    have hc := c32 l[i]
    rw [Int.natCast_succ] at ih
    rw [run_loopD _ _ f15b10_eq, vf, at0_eq hi]
    by_cases h1 : chk l[i] = 0
    · rw [h1] at hc
      rcases i with _ | j
      · simp at hc ih
        simp [hi, hc, h1, ih]
      · have hj : j < l.length := by omega
        have w1 := wrapN j (by omega)
        rw [show j + 1 - 1 = j by omega, at0_eq hj]
        have ws := wrapS (j + 1) (by omega)
        simp at ws hc ih
        by_cases h2 : l[j + 1].num ≤ l[j].num <;> simp [hi, hj, show (j : Int) + 1 < l.length by omega, show (0 : Int) ≤ (j : Int) + 1 by omega, show (0 : Int) < (j : Int) + 1 by omega, hc, h1, w1, ws, ih, h2]
    · simp [hi, wrapS i (by omega), hc, h1]
theorem c15 (l : List Fd) (hl : l.length ≤ 1000000) : callW tbl 15 [.sl 3 (l.map encF)] = some (.int .i64 (vf l l.length 0), []) := by
  rw [call_run tbl (f := 15) (fn := f15) rfl _ rfl]
  have h := t15 l hl l.length 0 [] (by omega)
  simp at h
  simp [f15, f15body, h]
theorem t16 (l : List Fd) (hl : l.length ≤ 1000000) : ∀ (k i : Nat) (rest : List AO), i + k = l.length → run tbl (.cl [.tmp 2]) [.blk 0, .seq (f16r10.seq .ret)] (.loop [3, 0] f16b9) [(3, .int .i64 i), (0, .sl 3 (l.map encF))] rest = some (.int .i64 (vf l k i), [])
  | 0, i, rest, h => by
    rw [run_loopD _ _ f16b9_eq]
    simp [show ¬ i < l.length by omega, vf]
  | k + 1, i, rest, h => by
    have hi : i < l.length := by omega
    have ih := fun r => t16 l hl k (i + 1) r (by omega)
    have hc := c33 l[i]
    rw [Int.natCast_succ] at ih
    rw [run_loopD _ _ f16b9_eq, vf, at0_eq hi]
    by_cases h1 : chk l[i] = 0
    · rw [h1] at hc
      rcases i with _ | j
      · simp at hc ih
        simp [hi, hc, h1, ih]
      · have hj : j < l.length := by omega
        have w1 := wrapN j (by omega)
        rw [show j + 1 - 1 = j by omega, at0_eq hj]
        have ws := wrapS (j + 1) (by omega)
        simp at ws hc ih
        by_cases h2 : l[j + 1].num ≤ l[j].num <;> simp [hi, hj, show (j : Int) + 1 < l.length by omega, show (0 : Int) ≤ (j : Int) + 1 by omega, show (0 : Int) < (j : Int) + 1 by omega, hc, h1, w1, ws, ih, h2]
    · simp [hi, wrapS i (by omega), hc, h1]
theorem c16 (l : List Fd) (hl : l.length ≤ 1000000) : callW tbl 16 [.sl 3 (l.map encF)] = some (.int .i64 (vf l l.length 0), []) := by
  rw [call_run tbl (f := 16) (fn := f16) rfl _ rfl]
  have h := t16 l hl l.length 0 [] (by omega)
  simp at h
  simp [f16, f16body, h]
/-- the least free number from m on: k numbers are looked at -/
def fr (l : List Fd) : Nat → Nat → Int × Bool
  | 0, _ => (0, false)
  | k + 1, m => if (getR l m).2 = true then fr l k (m + 1) else ((m : Int), true)
def fr2 (l : List Fd) (n : Int) : Nat → Nat → Int × Bool
  | 0, _ => (0, false)
  | k + 1, m => if n ≤ m ∧ (getR l m).2 = false then ((m : Int), true) else fr2 l n k (m + 1)
theorem fr2_eq (l : List Fd) (n : Int) : ∀ (k m : Nat), n ≤ (m : Int) → fr2 l n k m = fr l k m
  | 0, _, _ => rfl
  | k + 1, m, h => by
    rw [fr2, fr, fr2_eq l n k (m + 1) (by omega)]
    cases hg : (getR l m).2 <;> simp [h]
theorem fr2_skip (l : List Fd) (n : Int) : ∀ (d k m : Nat), (m : Int) + d ≤ n → fr2 l n (d + k) m = fr2 l n k (m + d)
  | 0, k, m, _ => by simp
  | d + 1, k, m, h => by
    rw [show d + 1 + k = (d + k) + 1 by omega, fr2, if_neg (by omega), fr2_skip l n d k (m + 1) (by omega), show m + 1 + d = m + (d + 1) by omega]
theorem fr2_none (l : List Fd) (n : Int) : ∀ (k m : Nat), (m : Int) + k ≤ n → fr2 l n k m = (0, false) := by
  intro k m h
  have := fr2_skip l n k 0 m h
  simpa [fr2] using this
abbrev outI (r : Int × Bool) : Option (AV × List AO) := some (.tup [.int .i64 r.1, .bool r.2], [])
theorem t13 (l : List Fd) (hl : l.length ≤ 1000000) : ∀ (k m : Nat) (rest : List AO), m + k = 32 → run tbl (.cl [.tmp 4, .tmp 5]) [.blk 0, .seq (f13r8.seq .ret)] (.loop [0, 6] f13b7) [(0, .sl 3 (l.map encF)), (6, .int .i64 m)] rest = outI (fr l k m)
  | 0, m, rest, h => by
    rw [run_loopD _ _ f13b7_eq]
    simp [show ¬ (m : Int) < 32 by omega, fr]
  | k + 1, m, rest, h => by
    have ih := fun r => t13 l hl k (m + 1) r (by omega)
    have hc := c11 l hl m
    rw [Int.natCast_succ] at ih
    rw [run_loopD _ _ f13b7_eq, fr]
    cases hg : (getR l m).2 <;> simp [show (m : Int) < 32 by omega, wrapS m (by omega), hc, ih, hg]
theorem t14 (l : List Fd) (hl : l.length ≤ 1000000) (n : Int) : ∀ (k m : Nat) (rest : List AO), m + k = 32 → run tbl (.cl [.tmp 4, .tmp 5]) [.blk 0, .seq (f14r8.seq .ret)] (.loop [0, 1, 6] f14b7) [(0, .sl 3 (l.map encF)), (1, .int .i64 n), (6, .int .i64 m)] rest = outI (fr2 l n k m)
  | 0, m, rest, h => by
    rw [run_loopD _ _ f14b7_eq]
    simp [show ¬ (m : Int) < 32 by omega, fr2]
  | k + 1, m, rest, h => by
    have ih := fun r => t14 l hl n k (m + 1) r (by omega)
    have hc := c12 l hl m
    rw [Int.natCast_succ] at ih
    rw [run_loopD _ _ f14b7_eq, fr2]
    by_cases hn : n ≤ (m : Int) <;> cases hg : (getR l m).2 <;> simp [show (m : Int) < 32 by omega, wrapS m (by omega), hc, ih, hn, hg]
theorem c14 (l : List Fd) (hl : l.length ≤ 1000000) (n : Int) : callW tbl 14 [.sl 3 (l.map encF), .int .i64 n] = outI (fr2 l n 32 0) := by
  rw [call_run tbl (f := 14) (fn := f14) rfl _ rfl]
  have h := t14 l hl n 32 0 [] (by omega)
  simp at h
  simp [f14, f14body, h]
theorem c13 (l : List Fd) (hl : l.length ≤ 1000000) (n : Int) : callW tbl 13 [.sl 3 (l.map encF), .int .i64 n] = outI (fr2 l n 32 0) := by
  rw [call_run tbl (f := 13) (fn := f13) rfl _ rfl]
  by_cases h0 : n ≤ 0
  · have h := t13 l hl 32 0 [] (by omega)
    rw [fr2_eq l n 32 0 (by simpa using h0)]
    simp at h
    simp [f13, f13body, show (if n < 0 then 0 else n) = 0 by split <;> omega, h]
  · obtain ⟨m, rfl⟩ : ∃ m : Nat, n = m := ⟨n.toNat, by omega⟩
    by_cases h1 : m ≤ 32
    · have h := t13 l hl (32 - m) m [] (by omega)
      have e := fr2_skip l m m (32 - m) 0 (by simp)
      rw [show m + (32 - m) = 32 by omega, show 0 + m = m by omega, fr2_eq l m (32 - m) m (by omega)] at e
      rw [e]
      simp [f13, f13body, show (if (m : Int) < 0 then 0 else (m : Int)) = m by split <;> omega, h]
    · rw [fr2_none l m 32 0 (by omega)]
      simp [f13, f13body, show (if (m : Int) < 0 then 0 else (m : Int)) = m by split <;> omega]
      rw [run_loopD _ _ f13b7_eq]
      simp [show ¬ (m : Int) < 32 by omega]
theorem c3 (l : List Fd) (n : Int) : callW tbl 3 [.sl 3 (l.map encF), .int .i64 n] = some (.bool true, []) := by
  rw [call_run tbl (f := 3) (fn := f3) rfl _ rfl]
  have h9 := c9 (l.map encF)
  simp at h9
  by_cases hs : l.length ≤ 60
  · have h11 := c11 l (by omega) n
    have h12 := c12 l (by omega) n
    have h13 := c13 l (by omega) n
    have h14 := c14 l (by omega) n
    have h15 := c15 l (by omega)
    have h16 := c16 l (by omega)
    simp [f3, f3body, h9, hs, h11, h12, h13, h14, h15, h16, c10]
  · simp [f3, f3body, h9, hs, c10]
end Go.Proofs.Ytiogndooaihgkaa
