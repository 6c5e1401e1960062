/- ControlContinues: what Front and Back give, on both sides; the law's function returns true. No condition. -/
import Derived.Test.YtedaefjmclkifaaCh2
namespace Go.Proofs.Ytedaefjmclkifaa
open Go.PI
set_option maxRecDepth 100000
set_option maxHeartbeats 8000000
set_option linter.unusedSimpArgs false
def kd (n : Int) : Int × Int := if n < 0 ∨ 768 < n ∨ ((n / 256 = 1 ∨ n / 256 = 2) ∧ (n % 256 < 1 ∨ 20 < n % 256)) then (-1, 0) else (n / 256, n % 256)
theorem kd_no {n : Int} (h : n < 0 ∨ 768 < n ∨ ((n / 256 = 1 ∨ n / 256 = 2) ∧ (n % 256 < 1 ∨ 20 < n % 256))) : kd n = (-1, 0) := by unfold kd; rw [if_pos h]
theorem kd_yes {n : Int} (h : ¬ (n < 0 ∨ 768 < n ∨ ((n / 256 = 1 ∨ n / 256 = 2) ∧ (n % 256 < 1 ∨ 20 < n % 256)))) : kd n = (n / 256, n % 256) := by unfold kd; rw [if_neg h]
abbrev outK (n : Int) : Option (AV × List AO) := some (.tup [.int .i64 (kd n).1, .int .i64 (kd n).2], [])
theorem c25 (n : Int) (h1 : -9223372036854775808 ≤ n) (h2 : n ≤ 9223372036854775807) : callW tbl 25 [.int .i64 n] = outK n := by
  rw [call_run tbl (f := 25) (fn := f25) rfl _ rfl]
  by_cases hn : n < 0
  · simp [f25, f25body, hn, kd_no]
  have e1 : n.tdiv 256 = n / 256 := Int.tdiv_eq_ediv_of_nonneg (by omega)
  have e2 : n.tmod 256 = n % 256 := Int.tmod_eq_emod_of_nonneg (by omega)
  have w1 := wrap64 (n / 256) (by omega) (by omega)
  have w2 := wrap64 (n % 256) (by omega) (by omega)
  by_cases q0 : n / 256 = 0
  · rw [outK, kd_yes (by omega)]
    simp [f25, f25body, hn, e1, e2, w1, w2, q0]
  by_cases q1 : n / 256 = 1
  · by_cases r1 : 1 ≤ n % 256 <;> by_cases r2 : n % 256 ≤ 20
    · rw [outK, kd_yes (by omega)]
      simp [f25, f25body, hn, e1, e2, w1, w2, q1, r1, r2]
    all_goals
      rw [outK, kd_no (by omega)]
      simp [f25, f25body, hn, e1, e2, w1, w2, q1, r1, r2]
  by_cases q2 : n / 256 = 2
  · by_cases r1 : 1 ≤ n % 256 <;> by_cases r2 : n % 256 ≤ 20
    · rw [outK, kd_yes (by omega)]
      simp [f25, f25body, hn, e1, e2, w1, w2, q2, r1, r2]
    all_goals
      rw [outK, kd_no (by omega)]
      simp [f25, f25body, hn, e1, e2, w1, w2, q2, r1, r2]
  by_cases q3 : n / 256 = 3
  · by_cases r1 : n % 256 = 0
    · rw [outK, kd_yes (by omega)]
      simp [f25, f25body, hn, e1, e2, w1, w2, q3, r1]
    · rw [outK, kd_no (by omega)]
      simp [f25, f25body, hn, e1, e2, w1, w2, q3, r1]
  · rw [outK, kd_no (by omega)]
    simp [f25, f25body, hn, e1, e2, w1, w2, q0, q1, q2, q3]
theorem c29 (n : Int) (h1 : -9223372036854775808 ≤ n) (h2 : n ≤ 9223372036854775807) : callW tbl 29 [.int .i64 n] = outK n := by
  rw [call_run tbl (f := 29) (fn := f29) rfl _ rfl]
  by_cases hn : n < 0
  · simp [f29, f29body, hn, kd_no]
  by_cases hb : 768 < n
  · simp [f29, f29body, hn, hb, kd_no]
  have e1 : n.tdiv 256 = n / 256 := Int.tdiv_eq_ediv_of_nonneg (by omega)
  have e2 : n.tmod 256 = n % 256 := Int.tmod_eq_emod_of_nonneg (by omega)
  have w1 := wrap64 (n / 256) (by omega) (by omega)
  have w2 := wrap64 (n % 256) (by omega) (by omega)
  by_cases q1 : n / 256 = 1 <;> by_cases q2 : n / 256 = 2 <;> by_cases r1 : n % 256 < 1 <;> by_cases r2 : 20 < n % 256 <;>
    first
    | omega
    | (rw [outK, kd_yes (by omega)]; simp [f29, f29body, hn, hb, e1, e2, w1, w2, q1, q2, r1, r2])
    | (rw [outK, kd_no (by omega)]; simp [f29, f29body, hn, hb, e1, e2, w1, w2, q1, q2, r1, r2])

abbrev encJ (id pg st : Int) (ps ss : List Int) (tx : List UInt8) (b : Bool) : AV := .agg [.int .i64 id, .int .i64 pg, .int .i64 st, .sl 1 (ps.map (.int .i64)), .sl 1 (ss.map (.int .i64)), .str tx, .bool b]
def any2 (ss : List Int) : Bool := ss.any fun n => (kd n).1 == 2
theorem any2_nil : any2 [] = false := rfl
theorem any2_step {ss : List Int} {i : Nat} (h : i < ss.length) : any2 (ss.drop i) = ((kd ss[i]).1 == 2 || any2 (ss.drop (i + 1))) := by rw [drop_step h]; rfl
def bk (pg : Int) (ss : List Int) : List Q := if any2 ss then [⟨11, IntKind.i64.wrap (-pg), 0, 18, 0, 0, []⟩] else []
theorem bk_length (pg : Int) (ss : List Int) : (bk pg ss).length ≤ 1 := by unfold bk; split <;> simp
abbrev Wf (ss : List Int) : Prop := ∀ n ∈ ss, -9223372036854775808 ≤ n ∧ n ≤ 9223372036854775807
theorem t26 (ss : List Int) (hw : Wf ss) (hl : ss.length ≤ 60) (h0 : AO) : ∀ (k i : Nat), i + k = ss.length → run tbl (.cl [.tmp 2]) [.blk 0, .seq (f26r10.seq .ret)] (.loop [9, 8, 10] f26b9) [(9, .int .i64 ss.length), (8, .sl 1 (ss.map (.int .i64))), (10, .int .i64 i)] [h0] = some (.bool (any2 (ss.drop i)), [])
  | 0, i, h => by
    rw [run_loopD _ _ f26b9_eq]
    simp [show ¬ i < ss.length by omega, show ss.drop i = [] from List.drop_eq_nil_of_le (by omega), any2_nil]
  | k + 1, i, h => by
    have hi : i < ss.length := by omega
    have ih := t26 ss hw hl h0 k (i + 1) (by omega)
    rw [Int.natCast_succ] at ih
    have hb := hw _ (List.getElem_mem hi)
    have hk := c29 ss[i] hb.1 hb.2
    rw [run_loopD _ _ f26b9_eq, any2_step hi]
    by_cases hn : 0 ≤ ss[i]
    · by_cases h2 : (kd ss[i]).1 = 2
      · simp [hi, wrapS i (by omega), hn, hk, h2]
      · simp [hi, wrapS i (by omega), hn, hk, h2, ih]
    · have h2 : (kd ss[i]).1 = -1 := by rw [kd_no (by omega)]
      simp [hi, wrapS i (by omega), hn, h2, ih]
theorem c26 (id pg st : Int) (ps ss : List Int) (tx : List UInt8) (b : Bool) (hw : Wf ss) (hl : ss.length ≤ 60) : callW tbl 26 [encJ id pg st ps ss tx b] = some (.bool (any2 ss), []) := by
  rw [call_run tbl (f := 26) (fn := f26) rfl _ rfl]
  have h := t26 ss hw hl (.box 40 7 (encJ id pg st ps ss tx b)) ss.length 0 (by omega)
  simp at h
  simp [f26, f26body, h]
theorem t18 (id pg st : Int) (ps ss : List Int) (tx : List UInt8) (b : Bool) (hw : Wf ss) (hl : ss.length ≤ 60) : ∀ (k i : Nat), i + k = ss.length → run tbl (.cl [.tmp 2]) [.blk 0, .seq (f18r9.seq .ret)] (.loop [9, 8, 10, 1] f18b8) [(9, .int .i64 ss.length), (8, .sl 1 (ss.map (.int .i64))), (10, .int .i64 i), (1, .bptr 0 0)] [.box 40 7 (encJ id pg st ps ss tx b), .row 53 12 0 []] = outQ (bk pg (ss.drop i))
  | 0, i, h => by
    rw [run_loopD _ _ f18b8_eq]
    simp [show ¬ i < ss.length by omega, show ss.drop i = [] from List.drop_eq_nil_of_le (by omega), bk, any2_nil]
  | k + 1, i, h => by
    have hi : i < ss.length := by omega
    have ih := t18 id pg st ps ss tx b hw hl k (i + 1) (by omega)
    rw [Int.natCast_succ] at ih
    have hb := hw _ (List.getElem_mem hi)
    have hk := c25 ss[i] hb.1 hb.2
    rw [run_loopD _ _ f18b8_eq, bk, any2_step hi]
    by_cases h2 : (kd ss[i]).1 = 2
    · simp [hi, wrapS i (by omega), hk, h2, bk]
    · simp [bk] at ih
      simp [hi, wrapS i (by omega), hk, h2, ih, bk]
theorem c18 (id pg st : Int) (ps ss : List Int) (tx : List UInt8) (b : Bool) (hw : Wf ss) (hl : ss.length ≤ 60) : callW tbl 18 [encJ id pg st ps ss tx b] = outQ (bk pg ss) := by
  rw [call_run tbl (f := 18) (fn := f18) rfl _ rfl]
  have h := t18 id pg st ps ss tx b hw hl ss.length 0 (by omega)
  simp at h
  simp [f18, f18body, h]
theorem c19 (id pg st : Int) (ps ss : List Int) (tx : List UInt8) (b : Bool) (hw : Wf ss) (hl : ss.length ≤ 60) : callW tbl 19 [encJ id pg st ps ss tx b] = outQ (bk pg ss) := by
  rw [call_run tbl (f := 19) (fn := f19) rfl _ rfl]
  have h := c26 id pg st ps ss tx b hw hl
  cases hb : any2 ss <;> rw [hb] at h <;> simp [f19, f19body, h, bk, hb]
def fr (pg own : Int) (ss : List Int) : List Q := (if pg ≠ own then [⟨13, pg, 0, 0, 0, 0, []⟩] else []) ++ bk pg ss
theorem fr_length (pg own : Int) (ss : List Int) : (fr pg own ss).length ≤ 2 := by
  have := bk_length pg ss
  unfold fr; split <;> simp <;> omega
theorem c16 (id pg st : Int) (ps ss : List Int) (tx : List UInt8) (b : Bool) (hw : Wf ss) (hl : ss.length ≤ 60) (own : Int) : callW tbl 16 [encJ id pg st ps ss tx b, .int .i64 own] = outQ (fr pg own ss) := by
  rw [call_run tbl (f := 16) (fn := f16) rfl _ rfl]
  have h := c18 id pg st ps ss tx b hw hl
  have hb := bk_length pg ss
  by_cases ho : pg = own
  · subst ho
    simp [f16, f16body, h, fr, show (bk pg ss).length ≤ 1073741824 by omega]
  · simp [f16, f16body, h, ho, fr, show 1 + (bk pg ss).length ≤ 1073741824 by omega]
    rw [Nat.add_comm 1]
    simp
theorem c17 (id pg st : Int) (ps ss : List Int) (tx : List UInt8) (b : Bool) (hw : Wf ss) (hl : ss.length ≤ 60) (own : Int) : callW tbl 17 [encJ id pg st ps ss tx b, .int .i64 own] = outQ (fr pg own ss) := by
  rw [call_run tbl (f := 17) (fn := f17) rfl _ rfl]
  have h := c19 id pg st ps ss tx b hw hl
  have hb := bk_length pg ss
  by_cases ho : pg = own
  · subst ho
    simp [f17, f17body, h, fr, show (bk pg ss).length ≤ 1073741824 by omega]
  · simp [f17, f17body, h, ho, fr, show 1 + (bk pg ss).length ≤ 1073741824 by omega]
    rw [Nat.add_comm 1]
    simp
theorem c10b (id pg st : Int) (ps ss : List Int) (tx : List UInt8) (b : Bool) : callW tbl 10 [.agg [.bool false, .bool false, .e0, .e0, .bool false], encJ id pg st ps ss tx b] = some (.bool (decide (ps.length ≤ 60) && decide (ss.length ≤ 60)), []) := by
  rw [call_run tbl (f := 10) (fn := f10) rfl _ rfl]
  by_cases h1 : (ps.length : Int) ≤ 60 <;> by_cases h2 : (ss.length : Int) ≤ 60 <;> simp [f10, f10body, h1, h2] <;> omega
theorem c5 (id pg st : Int) (ps ss : List Int) (tx : List UInt8) (b : Bool) (hw : Wf ss) (own : Int) : callW tbl 5 [encJ id pg st ps ss tx b, .int .i64 own] = some (.bool true, []) := by
  rw [call_run tbl (f := 5) (fn := f5) rfl _ rfl]
  have h10 := c10b id pg st ps ss tx b
  by_cases h1 : ps.length ≤ 60 <;> by_cases h2 : ss.length ≤ 60
  · by_cases h3 : pg < -2147483647
    · simp [h1, h2] at h10
      simp [f5, f5body, h10, h3, c9]
    · have h16 := c16 id pg st ps ss tx b hw h2 own
      have h17 := c17 id pg st ps ss tx b hw h2 own
      have h18 := c18 id pg st ps ss tx b hw h2
      have h19 := c19 id pg st ps ss tx b hw h2
      have h11 := c11 (fr pg own ss) (by have := fr_length pg own ss; omega)
      have h11' := c11 (bk pg ss) (by have := bk_length pg ss; omega)
      simp [h1, h2] at h10
      simp [f5, f5body, h10, h3, c9, h11, h16, h17, h18, h19, h11']
  all_goals
    simp [h1, h2] at h10
    simp [f5, f5body, h10, c9]
end Go.Proofs.Ytedaefjmclkifaa
