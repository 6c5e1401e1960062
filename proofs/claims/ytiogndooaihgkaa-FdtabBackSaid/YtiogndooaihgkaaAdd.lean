/- FdtabAdds: what Add gives, on both sides; the law's function returns true. No condition. -/
import Derived.Test.YtiogndooaihgkaaCount
namespace Go.Proofs.Ytiogndooaihgkaa
open Go.PI
set_option maxRecDepth 100000
set_option maxHeartbeats 8000000
set_option linter.unusedSimpArgs false
@[simp] theorem take_len_app {α β : Type} (l : List α) (f : α → β) (x : β) : (l.map f ++ [x]).take (l.length + 1) = l.map f ++ [x] := List.take_of_length_le (by simp)
/-- the first free description -/
def ff : List De → Nat → Option Nat
  | [], _ => none
  | x :: r, i => if x.kind = 0 then some i else ff r (i + 1)
theorem ff_step {l : List De} {i : Nat} (h : i < l.length) : ff (l.drop i) i = if l[i].kind = 0 then some i else ff (l.drop (i + 1)) (i + 1) := by rw [drop_step h]; rfl
theorem ff_lt : ∀ (r : List De) (i j : Nat), ff r i = some j → j < i + r.length
  | [], _, _, h => by cases h
  | x :: r, i, j, h => by
    rw [ff] at h
    split at h
    · cases h; simp
    · have := ff_lt r (i + 1) j h
      simp; omega
def ixv : Option Nat → Int
  | some j => j
  | none => -1
theorem cv35 (x : De) (H : List AO) : callV tbl 35 [encD x] H = some (.bool (decide (x.kind = 0)), H ++ [.box 37 6 (encD x)]) := by
  rw [callV_run tbl (f := 35) (fn := f35) rfl _ _ rfl]
  by_cases h : x.kind = 0 <;> simp [f35, f35body, h]
theorem t34 (l : List De) (hl : l.length ≤ 1000000) : ∀ (k i : Nat) (rest : List AO), i + k = l.length → run tbl (.cl [.tmp 4]) [.blk 0, .seq (f34r8.seq .ret)] (.loop [7, 1, 0, 8] f34b7) [(7, .int .i64 l.length), (1, .fn 35 []), (0, .sl 6 (l.map encD)), (8, .int .i64 i)] rest = some (.int .i64 (ixv (ff (l.drop i) i)), [])
  | 0, i, rest, h => by
    rw [run_loopD _ _ f34b7_eq]
    simp [show ¬ i < l.length by omega, show l.drop i = [] from List.drop_eq_nil_of_le (by omega), ff, ixv]
  | k + 1, i, rest, h => by
    have hi : i < l.length := by omega
    have ih := fun r => t34 l hl k (i + 1) r (by omega)
    have hc := cv35 l[i]
    rw [Int.natCast_succ] at ih
    rw [run_loopD _ _ f34b7_eq, ff_step hi]
    by_cases h2 : l[i].kind = 0
    · rw [if_pos h2]
      simp [h2] at hc
      simp [hi, wrapS i (by omega), hc, ixv]
    · rw [if_neg h2]
      simp [h2] at hc
      simp [hi, wrapS i (by omega), hc, ih]
theorem c34 (l : List De) (hl : l.length ≤ 1000000) : callW tbl 34 [.sl 6 (l.map encD), .fn 35 []] = some (.int .i64 (ixv (ff l 0)), []) := by
  rw [call_run tbl (f := 34) (fn := f34) rfl _ rfl]
  have h := t34 l hl l.length 0 [] (by omega)
  simp at h
  simp [f34, f34body, h]
abbrev sameA (l : List De) (e : Int) : Option (AV × List AO) := some (.tup [.sl 6 (l.map encD), .int .i64 0, .int .i64 e], [])
abbrev newA (l : List De) (i : Nat) : Option (AV × List AO) := some (.tup [.ref 0 0 0 l.length, .int .i64 i, .int .i64 0], [.row 37 6 0 (l.map encD)])
def add (l : List De) (d : De) : Option (AV × List AO) :=
  if d.kind < 1 ∨ 7 < d.kind then sameA l 1 else match ff l 0 with
    | some j => newA (l.set j d) j
    | none => if 128 ≤ l.length then sameA l 4 else newA (l ++ [d]) l.length
theorem c17 (l : List De) (hl : l.length ≤ 1000000) (d : De) : callW tbl 17 [.sl 6 (l.map encD), encD d] = add l d := by
  rw [call_run tbl (f := 17) (fn := f17) rfl _ rfl]
  have h34 := c34 l hl
  have h36 := c36 (l.map encD) (by simp; omega)
  simp at h36
  unfold add
  by_cases h1 : d.kind < 1
  · simp [f17, f17body, h1]
  by_cases h7 : 7 < d.kind
  · simp [f17, f17body, h1, h7]
  cases hf : ff l 0 with
  | some j =>
    have hj := ff_lt l 0 j hf
    simp at hj
    rw [hf, ixv] at h34
    simp [f17, f17body, h1, h7, h34, h36, hj, show ¬ (j : Int) < 0 by omega]
  | none =>
    rw [hf, ixv] at h34
    by_cases h8 : (128 : Int) ≤ l.length
    · simp [f17, f17body, h1, h7, h34, h8, show 128 ≤ l.length by omega]
    · simp [f17, f17body, h1, h7, h34, h36, h8, show ¬ 128 ≤ l.length by omega, show l.length ≤ 1073741823 by omega]
theorem t18 (l : List De) (hl : l.length ≤ 1000000) (d : De) : ∀ (k i : Nat), i + k = l.length → run tbl (.cl [.tmp 4, .tmp 5, .tmp 6]) [.blk 0, .seq ((f18r9.seq (.cond (.t 37) (.seq f18r10 .ret) .skip)).seq (f18r11.seq (f18r12.seq .ret)))] (.loop [0, 3, 7] f18b8) [(0, .sl 6 (l.map encD)), (3, .bptr 0 0), (7, .int .i64 i)] [.box 37 6 (encD d), .row 37 6 0 []] = match ff (l.drop i) i with
    | some j => newA (l.set j d) j
    | none => if 128 ≤ l.length then sameA l 4 else newA (l ++ [d]) l.length
  | 0, i, h => by
    rw [run_loopD _ _ f18b8_eq]
    have hc := c37 l hl (-1) d
    rw [cf_lt _ _ _ _ (by omega)] at hc
    rw [show l.drop i = [] from List.drop_eq_nil_of_le (by omega), ff]
    by_cases h8 : (128 : Int) ≤ l.length
    · simp [show ¬ i < l.length by omega, h8, show 128 ≤ l.length by omega]
    · simp [show ¬ i < l.length by omega, h8, show ¬ 128 ≤ l.length by omega, hc, show l.length ≤ 1073741823 by omega]
  | k + 1, i, h => by
    have hi : i < l.length := by omega
    have ih := t18 l hl d k (i + 1) (by omega)
    have hc := c37 l hl i d
    rw [cf_set _ _ _ _ (Nat.zero_le _), Nat.sub_zero] at hc
    try simp at hc
    rw [Int.natCast_succ] at ih
    rw [run_loopD _ _ f18b8_eq, ff_step hi]
    by_cases h2 : l[i].kind = 0 <;> simp [hi, wrapS i (by omega), hc, h2, ih]
theorem c18 (l : List De) (hl : l.length ≤ 1000000) (d : De) : callW tbl 18 [.sl 6 (l.map encD), encD d] = add l d := by
  rw [call_run tbl (f := 18) (fn := f18) rfl _ rfl]
  have h := t18 l hl d l.length 0 (by omega)
  unfold add
  by_cases h1 : d.kind < 1
  · simp [f18, f18body, h1]
  by_cases h7 : 7 < d.kind
  · simp [f18, f18body, h1, h7]
  rw [if_neg (by omega)]
  simp only [List.drop_zero] at h
  rw [← h]
  simp [f18, f18body, h1, h7]
theorem c4 (l : List De) (d : De) : callW tbl 4 [.sl 6 (l.map encD), encD d] = some (.bool true, []) := by
  rw [call_run tbl (f := 4) (fn := f4) rfl _ rfl]
  have h9 := c9b (l.map encD)
  simp at h9
  by_cases hs : l.length ≤ 140
  · have hl : l.length ≤ 1000000 := by omega
    have h17 := c17 l hl d
    have h18 := c18 l hl d
    have h19 := c19 l hl
    have h19s := c19s l hl
    have h19a := c19 (l ++ [d]) (by simp; omega)
    simp at h19a
    unfold add at h17 h18
    by_cases h1 : d.kind < 1 ∨ 7 < d.kind
    · rw [if_pos h1] at h17 h18
      simp [f4, f4body, h9, hs, h17, h18, h19, c10]
    · rw [if_neg h1] at h17 h18
      cases hf : ff l 0 with
      | some j =>
        rw [hf] at h17 h18
        try simp at h17 h18
        simp [f4, f4body, h9, hs, h17, h18, h19s, c10]
      | none =>
        rw [hf] at h17 h18
        by_cases h8 : 128 ≤ l.length
        · simp [h8] at h17 h18
          simp [f4, f4body, h9, hs, h17, h18, h19, c10]
        · simp [h8] at h17 h18
          simp [f4, f4body, h9, hs, h17, h18, h19a, c10]
  · simp [f4, f4body, h9, hs, c10]
end Go.Proofs.Ytiogndooaihgkaa
