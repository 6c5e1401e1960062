/- RedirectPlans: what Plan gives, on both sides; the law's function returns true. No condition. -/
import Derived.Test.YtddcoboldcenkaaDig
namespace Go.Proofs.Ytddcoboldcenkaa
open Go.PI
set_option maxRecDepth 100000
set_option maxHeartbeats 8000000
set_option linter.unusedSimpArgs false
structure Rx where
  pos : Int
  fd : Int
  op : Int
  w : Int
abbrev encX (r : Rx) : AV := .agg [.int .i64 r.pos, .int .i64 r.fd, .int .i64 r.op, .int .i64 r.w, .top]
abbrev zM : Mv := ⟨0, 0, 0, 0, [], []⟩
def opn (t : List UInt8) (fl : Int) : Mv × Int := if t = [] then (zM, 8) else (⟨1, 0, 0, fl, t, []⟩, 0)
def dup (t : List UInt8) : Mv × Int := if t = [45] then (⟨3, 0, 0, 0, [], []⟩, 0) else match dgI t with
  | some n => if n ≤ 9 then (⟨2, 0, n, 0, [], []⟩, 0) else (zM, 26)
  | none => (zM, 26)
def mvS (op : Int) (t : List UInt8) (nc : Bool) : Mv × Int :=
  if op = 1 then opn t 1 else if op = 2 then opn t (if nc = true then 42 else 26) else if op = 7 then opn t 26 else if op = 3 then opn t 14 else if op = 6 then opn t 11
  else if op = 8 then (⟨4, 0, 0, 0, [], t⟩, 0) else if op = 4 then dup t else if op = 5 then dup t else (zM, 1)
def nc (o : Int) : Bool := decide (abits .and .i64 o 128 ≠ 0)
abbrev outM (r : Mv × Int) : Option (AV × List AO) := some (.tup [encM r.1, .int .i64 r.2], [])
theorem c16 (op o : Int) (t : List UInt8) : callW tbl 16 [.int .i64 op, .str t, .int .i64 o] = outM (mvS op t (nc o)) := by
  rw [call_run tbl (f := 16) (fn := f16) rfl _ rfl]
  have h20 := c20 t
  unfold mvS
  by_cases h1 : op = 1
  · by_cases ht : t = [] <;> simp [f16, f16body, h1, ht, opn]
  by_cases h2 : op = 2
  · by_cases ho : abits .and .i64 o 128 = 0 <;> by_cases ht : t = [] <;> simp [f16, f16body, h2, ht, ho, nc, opn]
  by_cases h7 : op = 7
  · by_cases ht : t = [] <;> simp [f16, f16body, h7, ht, opn]
  by_cases h3 : op = 3
  · by_cases ht : t = [] <;> simp [f16, f16body, h3, ht, opn]
  by_cases h6 : op = 6
  · by_cases ht : t = [] <;> simp [f16, f16body, h6, ht, opn]
  by_cases h8 : op = 8
  · simp [f16, f16body, h8]
  by_cases h4 : op = 4
  · by_cases ht : t = [45]
    · simp [f16, f16body, h4, ht, dup]
    · cases hd : dgI t with
      | none =>
        rw [hd] at h20
        simp [outD] at h20
        simp [f16, f16body, h4, ht, dup, hd, h20]
      | some n =>
        rw [hd] at h20
        simp [outD] at h20
        by_cases hn : n ≤ 9
        · simp [f16, f16body, h4, ht, dup, hd, h20, hn, show (n : Int) ≤ 9 by omega]
        · simp [f16, f16body, h4, ht, dup, hd, h20, hn, show ¬ (n : Int) ≤ 9 by omega]
  by_cases h5 : op = 5
  · by_cases ht : t = [45]
    · simp [f16, f16body, h5, ht, dup]
    · cases hd : dgI t with
      | none =>
        rw [hd] at h20
        simp [outD] at h20
        simp [f16, f16body, h5, ht, dup, hd, h20]
      | some n =>
        rw [hd] at h20
        simp [outD] at h20
        by_cases hn : n ≤ 9
        · simp [f16, f16body, h5, ht, dup, hd, h20, hn, show (n : Int) ≤ 9 by omega]
        · simp [f16, f16body, h5, ht, dup, hd, h20, hn, show ¬ (n : Int) ≤ 9 by omega]
  · simp [f16, f16body, h1, h2, h3, h4, h5, h6, h7, h8]
/-- with the descriptor -/
def mvF (r : Rx) (t : List UInt8) (b : Bool) : Mv × Int :=
  if r.fd < 0 ∨ 9 < r.fd then (zM, 2) else if (mvS r.op t b).2 = 0 then ({ (mvS r.op t b).1 with fd := r.fd }, 0) else (zM, (mvS r.op t b).2)
theorem c17 (r : Rx) (b : Bool) (t : List UInt8) : callW tbl 17 [encX r, .str t, .bool b] = outM (mvF r t b) := by
  rw [call_run tbl (f := 17) (fn := f17) rfl _ rfl]
  have h21 := c21 t
  unfold mvF
  by_cases hf : r.fd < 0
  · simp [f17, f17body, hf]
  by_cases hf9 : 9 < r.fd
  · simp [f17, f17body, hf, hf9]
  rw [if_neg (by omega)]
  unfold mvS
  by_cases h1 : r.op = 1
  · by_cases ht : t = [] <;> simp [f17, f17body, hf, hf9, h1, ht, opn]
  by_cases h2 : r.op = 2
  · cases b <;> by_cases ht : t = [] <;> simp [f17, f17body, hf, hf9, h2, ht, opn]
  by_cases h7 : r.op = 7
  · cases b <;> by_cases ht : t = [] <;> simp [f17, f17body, hf, hf9, h7, ht, opn]
  by_cases h3 : r.op = 3
  · by_cases ht : t = [] <;> simp [f17, f17body, hf, hf9, h3, ht, opn]
  by_cases h6 : r.op = 6
  · by_cases ht : t = [] <;> simp [f17, f17body, hf, hf9, h6, ht, opn]
  by_cases h8 : r.op = 8
  · simp [f17, f17body, hf, hf9, h8]
  by_cases h4 : r.op = 4
  · by_cases ht : t = [45]
    · simp [f17, f17body, hf, hf9, h4, ht, dup]
    · cases hd : dgI t with
      | none =>
        rw [hd] at h21
        simp [outD] at h21
        simp [f17, f17body, hf, hf9, h4, ht, dup, hd, h21]
      | some n =>
        rw [hd] at h21
        simp [outD] at h21
        by_cases hn : n ≤ 9
        · simp [f17, f17body, hf, hf9, h4, ht, dup, hd, h21, hn, show ¬ (9 : Int) < n by omega]
        · simp [f17, f17body, hf, hf9, h4, ht, dup, hd, h21, hn, show (9 : Int) < n by omega]
  by_cases h5 : r.op = 5
  · by_cases ht : t = [45]
    · simp [f17, f17body, hf, hf9, h5, ht, dup]
    · cases hd : dgI t with
      | none =>
        rw [hd] at h21
        simp [outD] at h21
        simp [f17, f17body, hf, hf9, h5, ht, dup, hd, h21]
      | some n =>
        rw [hd] at h21
        simp [outD] at h21
        by_cases hn : n ≤ 9
        · simp [f17, f17body, hf, hf9, h5, ht, dup, hd, h21, hn, show ¬ (9 : Int) < n by omega]
        · simp [f17, f17body, hf, hf9, h5, ht, dup, hd, h21, hn, show (9 : Int) < n by omega]
  · simp [f17, f17body, hf, hf9, h1, h2, h3, h4, h5, h6, h7, h8]
end Go.Proofs.Ytddcoboldcenkaa
