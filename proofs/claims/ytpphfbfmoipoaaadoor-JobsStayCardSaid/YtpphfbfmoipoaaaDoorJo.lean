/- Jobs: which job is the current one; the words for a job; its line, on both sides. No condition. -/
import Derived.Test.YtpphfbfmoipoaaaDoorJk
import Derived.Lib.ItoaLen
namespace Go.Proofs.YtpphfbfmoipoaaaDoor
open Go.PI
set_option maxRecDepth 100000
set_option maxHeartbeats 8000000
set_option linter.unusedSimpArgs false
theorem c20 (n : Int) (h1 : -9223372036854775808 ≤ n) (h2 : n ≤ 9223372036854775807) : callW tbl 20 [.int .i64 n] = some (.str (Lib.itoa n), []) := by
  rw [call_ext tbl rfl]
  show (if -9223372036854775808 ≤ n ∧ n ≤ 9223372036854775807 then _ else none) = _
  rw [if_pos ⟨h1, h2⟩]
@[simp] theorem strsOf_map : ∀ l : List (List UInt8), strsOf (l.map .str) = some l
  | [] => rfl
  | x :: r => by simp only [List.map_cons, strsOf, strsOf_map r]; rfl
theorem c80 (l : List (List UInt8)) (sep : List UInt8) (h1 : l.length ≤ 1000000) (h2 : (Lib.join l sep).length ≤ 1000000000) : callW tbl 80 [.sl 1 (l.map .str), .str sep] = some (.str (Lib.join l sep), []) := by
  rw [call_ext tbl rfl]
  show joinX (.sl 1 (l.map .str)) (.str sep) = _
  simp only [joinX, strsOf_map, Option.bind_some]
  rw [if_pos ⟨h1, h2⟩]
/-- the words for the signals -/
def wd (v : Int) : List UInt8 := match v with
  | 1 => [72, 85, 80] | 2 => [73, 78, 84] | 3 => [81, 85, 73, 84] | 4 => [84, 84, 73, 78] | 5 => [84, 84, 79, 85] | 9 => [75, 73, 76, 76] | 10 => [85, 83, 82, 49] | 12 => [85, 83, 82, 50] | 13 => [80, 73, 80, 69]
  | 14 => [65, 76, 82, 77] | 15 => [84, 69, 82, 77] | 17 => [67, 72, 76, 68] | 18 => [67, 79, 78, 84] | 19 => [83, 84, 79, 80] | 20 => [84, 83, 84, 80]
  | v => [83, 105, 103, 110, 97, 108, 32] ++ Lib.itoa v
def dsc (r : Int × Int) : List UInt8 := if r.1 = 0 then (if r.2 = 0 then [68, 111, 110, 101] else [69, 120, 105, 116, 32] ++ Lib.itoa r.2) else if r.1 = 1 then wd r.2 else if r.1 = 2 then [83, 116, 111, 112, 112, 101, 100] else if r.1 = 3 then [82, 117, 110, 110, 105, 110, 103] else []
theorem one_of (v : Int) (h1 : 1 ≤ v) (h2 : v ≤ 20) : v = 1 ∨ v = 2 ∨ v = 3 ∨ v = 4 ∨ v = 5 ∨ v = 6 ∨ v = 7 ∨ v = 8 ∨ v = 9 ∨ v = 10 ∨ v = 11 ∨ v = 12 ∨ v = 13 ∨ v = 14 ∨ v = 15 ∨ v = 16 ∨ v = 17 ∨ v = 18 ∨ v = 19 ∨ v = 20 := by omega
theorem c81 (n : Int) (hn : n ≤ 9223372036854775807) : callW tbl 81 [.int .i64 n] = some (.str (dsc (kdv n)), []) := by
  have h := c62 n hn
  rcases kd_cases n with e | ⟨v, e, h1, h2, _⟩ | ⟨v, e, h1, h2, rfl⟩ | ⟨v, e, h1, h2, _⟩ | ⟨e, _⟩
  · rw [call_run tbl (f := 81) (fn := f81) rfl _ rfl]
    rw [e] at h ⊢
    simp [f81, f81body, h, dsc]
  · rw [call_run tbl (f := 81) (fn := f81) rfl _ rfl]
    rw [e] at h ⊢
    have hi := c20 v (by omega) (by omega)
    by_cases v0 : v = 0
    · simp [f81, f81body, h, dsc, v0]
    · have hl : 5 + (Lib.itoa v).length ≤ maxStr := by
        have := Lib.itoa_length_le v (by omega) (by omega)
        unfold maxStr
        omega
      simp [f81, f81body, h, dsc, v0, hi, hl]
  · rcases one_of v h1 h2 with rfl | rfl | rfl | rfl | rfl | rfl | rfl | rfl | rfl | rfl | rfl | rfl | rfl | rfl | rfl | rfl | rfl | rfl | rfl | rfl <;> exact callW_of tbl (k := 300) (by kernel_rfl)
  · rw [call_run tbl (f := 81) (fn := f81) rfl _ rfl]
    rw [e] at h ⊢
    simp [f81, f81body, h, dsc]
  · rw [call_run tbl (f := 81) (fn := f81) rfl _ rfl]
    rw [e] at h ⊢
    simp [f81, f81body, h, dsc]
theorem c82 (n : Int) : callW tbl 82 [.int .i64 n] = some (.str (dsc (kdv n)), []) := by
  have h := c66 n
  rcases kd_cases n with e | ⟨v, e, h1, h2, _⟩ | ⟨v, e, h1, h2, rfl⟩ | ⟨v, e, h1, h2, _⟩ | ⟨e, _⟩
  · rw [call_run tbl (f := 82) (fn := f82) rfl _ rfl]
    rw [e] at h ⊢
    simp [f82, f82body, h, dsc]
  · rw [call_run tbl (f := 82) (fn := f82) rfl _ rfl]
    rw [e] at h ⊢
    have hi := c20 v (by omega) (by omega)
    by_cases v0 : v = 0
    · simp [f82, f82body, h, dsc, v0]
    · have hl : 5 + (Lib.itoa v).length ≤ maxStr := by
        have := Lib.itoa_length_le v (by omega) (by omega)
        unfold maxStr
        omega
      simp [f82, f82body, h, dsc, v0, hi, hl]
  · rcases one_of v h1 h2 with rfl | rfl | rfl | rfl | rfl | rfl | rfl | rfl | rfl | rfl | rfl | rfl | rfl | rfl | rfl | rfl | rfl | rfl | rfl | rfl <;> exact callW_of tbl (k := 300) (by kernel_rfl)
  · rw [call_run tbl (f := 82) (fn := f82) rfl _ rfl]
    rw [e] at h ⊢
    simp [f82, f82body, h, dsc]
  · rw [call_run tbl (f := 82) (fn := f82) rfl _ rfl]
    rw [e] at h ⊢
    simp [f82, f82body, h, dsc]
/- the current job -/
def g1 (l : List Jb) (b : Int) : Nat → Int
  | 0 => -1
  | k + 1 => match l[k]? with
    | none => g1 l b k
    | some j => if ¬ (k : Int) = b ∧ j.state = 2 then k else g1 l b k
def g2 (b : Int) : Nat → Int
  | 0 => -1
  | k + 1 => if ¬ (k : Int) = b then k else g2 b k
def lastS (l : List Jb) (b : Int) : Int := if 0 ≤ g1 l b l.length then g1 l b l.length else g2 b l.length
theorem g1_bd (l : List Jb) (b : Int) : ∀ k, -1 ≤ g1 l b k ∧ g1 l b k < k
  | 0 => by simp [g1]
  | k + 1 => by
    have ih := g1_bd l b k
    simp only [g1]
    split
    · omega
    · split <;> omega
theorem g2_bd (b : Int) : ∀ k, -1 ≤ g2 b k ∧ g2 b k < k
  | 0 => by simp [g2]
  | k + 1 => by
    have ih := g2_bd b k
    simp only [g2]
    split <;> omega
def lp (l : List Jb) (b : Int) : Nat → Int → Int
  | 0, a => a
  | k + 1, a => if (k : Int) = b then lp l b k a else match l[k]? with
    | none => a
    | some j => if j.state = 2 then k else lp l b k (if a < 0 then k else a)
theorem lp_eq (l : List Jb) (b : Int) : ∀ (k : Nat) (a : Int), k ≤ l.length → -1 ≤ a → lp l b k a = if 0 ≤ g1 l b k then g1 l b k else if a < 0 then g2 b k else a
  | 0, a, h, ha => by simp [lp, g1, g2]; omega
  | k + 1, a, h, ha => by
    have hk : k < l.length := by omega
    have hg : l[k]? = some l[k] := List.getElem?_eq_getElem hk
    simp only [lp, g1, g2, hg]
    by_cases h1 : (k : Int) = b
    · rw [if_pos h1, lp_eq l b k a (by omega) ha]
      simp [h1]
    · rw [if_neg h1]
      by_cases h2 : l[k].state = 2
      · simp [h1, h2]
      · rw [if_neg h2, lp_eq l b k _ (by omega) (by split <;> omega)]
        have := g1_bd l b k
        simp only [h1, h2, not_false_eq_true, and_false, if_false, if_true]
        by_cases h3 : 0 ≤ g1 l b k
        · rw [if_pos h3, if_pos h3]
        · rw [if_neg h3, if_neg h3]
          by_cases h4 : a < 0
          · simp only [h4, if_true]; rw [if_neg (by omega)]
          · simp only [h4, if_false]
theorem t56 (l : List Jb) (hl : l.length ≤ 1000000) (b : Int) : ∀ (k : Nat) (a : Int), k ≤ l.length → run tbl (.cl [.tmp 4]) [.blk 0, .seq (f56r11.seq .ret)] (.loop [6, 1, 5, 0] f56b10) [(6, .int .i64 ((k : Int) - 1)), (1, .int .i64 b), (5, .int .i64 a), (0, jl l)] [] = some (.int .i64 (lp l b k a), [])
  | 0, a, h => by
    rw [run_loopD _ _ f56b10_eq]
    simp [lp]
  | k + 1, a, h => by
    have hk : k < l.length := by omega
    have hg : l[k]? = some l[k] := List.getElem?_eq_getElem hk
    have ih := fun a => t56 l hl b k a (by omega)
    have e0 : (((k + 1 : Nat) : Int) - 1) = (k : Int) := by omega
    have ws : IntKind.i64.wrap ((k : Int) - 1) = (k : Int) - 1 := wrap64 _ (by omega) (by omega)
    rw [run_loopD _ _ f56b10_eq, e0]
    simp only [lp, hg]
    by_cases h1 : (k : Int) = b
    · subst h1
      simp [hk, ws, ih]
    · by_cases h2 : l[k].state = 2
      · simp [hk, h1, h2]
      · by_cases h3 : a < 0
        · simp [hk, h1, h2, h3, ws, ih]
        · simp [hk, h1, h2, h3, ws, ih]
theorem c56 (l : List Jb) (hl : l.length ≤ 1000000) (b : Int) : callW tbl 56 [jl l, .int .i64 b] = some (.int .i64 (lastS l b), []) := by
  rw [call_run tbl (f := 56) (fn := f56) rfl _ rfl]
  have h := t56 l hl b l.length (-1) (by omega)
  rw [lp_eq l b l.length (-1) (by omega) (by omega)] at h
  have ws : IntKind.i64.wrap ((l.length : Int) - 1) = (l.length : Int) - 1 := wrap64 _ (by omega) (by omega)
  simp at h
  simp [f56, f56body, ws, h, lastS]
theorem t57a (l : List Jb) (hl : l.length ≤ 1000000) (b : Int) (T : IC) (X : AV × List AO) (hX : run tbl (.cl [.tmp 4]) [] T [(11, .bool false), (5, .int .i64 (g1 l b l.length)), (6, .int .i64 l.length), (1, .int .i64 b), (0, jl l)] [] = some X) :
    ∀ (k i : Nat), i + k = l.length → run tbl (.cl [.tmp 4]) [.blk 0, .seq T] (.loop [5, 6, 1, 0] f57b7) [(5, .int .i64 (g1 l b i)), (6, .int .i64 i), (1, .int .i64 b), (0, jl l)] [] = some X
  | 0, i, h => by
    obtain rfl : i = l.length := by omega
    rw [run_loopD _ _ f57b7_eq]
    simp [hX]
  | k + 1, i, h => by
    have hi : i < l.length := by omega
    have hg : l[i]? = some l[i] := List.getElem?_eq_getElem hi
    have ih := t57a l hl b T X hX k (i + 1) (by omega)
    rw [Int.natCast_succ] at ih
    simp only [g1, hg] at ih
    have ws := wrapS i (by omega)
    rw [run_loopD _ _ f57b7_eq]
    by_cases h1 : (i : Int) = b
    · simp [h1] at ih
      have h1' : ((i : Int) = b) = True := by simp [h1]
      subst h1
      simp [hi, ws, ih]
    · by_cases h2 : l[i].state = 2
      · simp [h1, h2] at ih
        simp [hi, h1, h2, ws, ih]
      · simp [h1, h2] at ih
        simp [hi, h1, h2, ws, ih]
theorem t57b (l : List Jb) (hl : l.length ≤ 1000000) (b : Int) : ∀ (k i : Nat), i + k = l.length → run tbl (.cl [.tmp 4]) [.blk 2, .seq (f57r16.seq .ret)] (.loop [5, 7, 0, 1] f57b15) [(5, .int .i64 (g2 b i)), (7, .int .i64 i), (0, jl l), (1, .int .i64 b)] [] = some (.int .i64 (g2 b l.length), [])
  | 0, i, h => by
    obtain rfl : i = l.length := by omega
    rw [run_loopD _ _ f57b15_eq]
    simp
  | k + 1, i, h => by
    have hi : i < l.length := by omega
    have ih := t57b l hl b k (i + 1) (by omega)
    rw [Int.natCast_succ] at ih
    simp only [g2] at ih
    have ws := wrapS i (by omega)
    rw [run_loopD _ _ f57b15_eq]
    by_cases h1 : (i : Int) = b
    · subst h1
      simp at ih
      simp [hi, ws, ih]
    · simp [h1] at ih
      simp [hi, h1, ws, ih]
theorem c57 (l : List Jb) (hl : l.length ≤ 1000000) (b : Int) : callW tbl 57 [jl l, .int .i64 b] = some (.int .i64 (lastS l b), []) := by
  rw [call_run tbl (f := 57) (fn := f57) rfl _ rfl]
  have hB := t57b l hl b l.length 0 (by omega)
  have hT : run tbl (.cl [.tmp 4]) [] (.seq (.seq f57r8 (.cond (.t 27) (.seq f57r9 .ret) .skip)) (.seq (.seq f57r10 (.block 2 (.loop [5, 7, 0, 1] f57b15))) (.seq f57r16 .ret))) [(11, .bool false), (5, .int .i64 (g1 l b l.length)), (6, .int .i64 l.length), (1, .int .i64 b), (0, jl l)] [] = some (.int .i64 (lastS l b), []) := by
    unfold lastS
    have hbd := g1_bd l b l.length
    by_cases h : 0 ≤ g1 l b l.length
    · simp [h]
    · have he : g1 l b l.length = -1 := by omega
      rw [he]
      simp [g2] at hB
      simp [hB]
  have hA := t57a l hl b _ _ hT l.length 0 (by omega)
  simp [g1] at hA
  simp [f57, f57body, hA]
theorem lastS_bd (l : List Jb) (b : Int) : -1 ≤ lastS l b ∧ lastS l b < l.length := by
  unfold lastS
  have h1 := g1_bd l b l.length
  have h2 := g2_bd b l.length
  split <;> omega
theorem c16 (l : List Jb) (hl : l.length ≤ 1000000) : callW tbl 16 [jl l] = some (.tup [.int .i64 (lastS l (-1)), .int .i64 (lastS l (lastS l (-1)))], []) := by
  rw [call_run tbl (f := 16) (fn := f16) rfl _ rfl]
  have e1 := c56 l hl (-1)
  have e2 := c56 l hl (lastS l (-1))
  simp [f16, f16body, e1, e2]
theorem g2_neg : ∀ k, g2 (-1) k = (k : Int) - 1
  | 0 => rfl
  | k + 1 => by simp only [g2]; rw [if_pos (by omega)]; omega
theorem c17 (l : List Jb) (hl : l.length ≤ 1000000) : callW tbl 17 [jl l] = some (.tup [.int .i64 (lastS l (-1)), .int .i64 (lastS l (lastS l (-1)))], []) := by
  rw [call_run tbl (f := 17) (fn := f17) rfl _ rfl]
  have e1 := c57 l hl (-1)
  have e2 := c57 l hl (lastS l (-1))
  have hb := lastS_bd l (-1)
  by_cases h : lastS l (-1) < 0
  · have h0 : lastS l (-1) = -1 := by omega
    have h1 : lastS l (lastS l (-1)) = -1 := by rw [h0]; exact h0
    rw [h1, h0]
    rw [h0] at e1
    simp [f17, f17body, e1]
  · simp [f17, f17body, e1, e2, h]
/- the words -/
def wdJ (x : Jb) : List UInt8 := if x.state = 2 then [83, 116, 111, 112, 112, 101, 100] else if x.state = 3 then (match x.stats.getLast? with | none => [] | some n => dsc (kdv n)) else [82, 117, 110, 110, 105, 110, 103]
theorem c59 (x : Jb) (hx : BJ x) (hw : WJ x) : callW tbl 59 [encJ x] = some (.str (wdJ x), []) := by
  rw [call_run tbl (f := 59) (fn := f59) rfl _ rfl]
  unfold wdJ
  by_cases s2 : x.state = 2
  · simp [f59, f59body, s2]
  by_cases s3 : x.state = 3
  · by_cases h0 : x.stats = []
    · simp [f59, f59body, s3, h0]
    · have hp : 0 < x.stats.length := List.length_pos_iff.2 h0
      have hg : x.stats.getLast? = some (x.stats[x.stats.length - 1]'(by omega)) := by rw [List.getLast?_eq_getElem?, List.getElem?_eq_getElem (by omega)]
      have h1 : x.stats.length ≤ 1000000 := hx.2
      have w1 : IntKind.i64.wrap ((x.stats.length : Int) - 1) = ((x.stats.length - 1 : Nat) : Int) := by rw [wrap64 _ (by omega) (by omega)]; omega
      have e1 := c81 (x.stats[x.stats.length - 1]'(by omega)) (hw _ (List.getElem_mem _))
      rw [hg]
      simp only
      generalize hn : x.stats[x.stats.length - 1]'(by omega) = n at e1 ⊢
      have hn' : (im x.stats)[x.stats.length - 1]? = some (.int .i64 n) := by simp [im, hp, ← hn]
      have hlt : x.stats.length - 1 < x.stats.length := by omega
      simp [f59, f59body, s3, h0, w1, hn', hn, hlt, hp, e1, show (0 : Int) < x.stats.length by omega]
  · simp [f59, f59body, s2, s3]
theorem c60 (x : Jb) (hx : BJ x) : callW tbl 60 [encJ x] = some (.str (wdJ x), []) := by
  rw [call_run tbl (f := 60) (fn := f60) rfl _ rfl]
  unfold wdJ
  by_cases s2 : x.state = 2
  · simp [f60, f60body, s2]
  by_cases s3 : x.state = 3
  · by_cases h0 : x.stats = []
    · simp [f60, f60body, s3, h0]
    · have hp : 0 < x.stats.length := List.length_pos_iff.2 h0
      have hg : x.stats.getLast? = some (x.stats[x.stats.length - 1]'(by omega)) := by rw [List.getLast?_eq_getElem?, List.getElem?_eq_getElem (by omega)]
      have h1 : x.stats.length ≤ 1000000 := hx.2
      have w1 : IntKind.i64.wrap ((x.stats.length : Int) - 1) = ((x.stats.length - 1 : Nat) : Int) := by rw [wrap64 _ (by omega) (by omega)]; omega
      have e1 := c82 (x.stats[x.stats.length - 1]'(by omega))
      rw [hg]
      simp only
      generalize hn : x.stats[x.stats.length - 1]'(by omega) = n at e1 ⊢
      have hn' : (im x.stats)[x.stats.length - 1]? = some (.int .i64 n) := by simp [im, hp, ← hn]
      have hlt : x.stats.length - 1 < x.stats.length := by omega
      simp [f60, f60body, s3, h0, w1, hn', hn, hlt, hp, e1]
  · simp [f60, f60body, s2, s3]
end Go.Proofs.YtpphfbfmoipoaaaDoor
