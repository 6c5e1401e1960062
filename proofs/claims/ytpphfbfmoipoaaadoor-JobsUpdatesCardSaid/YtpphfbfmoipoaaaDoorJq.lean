/- Jobs: News on both sides. No condition. -/
import Derived.Test.YtpphfbfmoipoaaaDoorJp
namespace Go.Proofs.YtpphfbfmoipoaaaDoor
open Go.PI
set_option maxRecDepth 100000
set_option maxHeartbeats 8000000
set_option linter.unusedSimpArgs false
def nJ : List Jb → List Jb
  | [] => []
  | j :: r => if j.state = 3 then nJ r else { j with noted := true } :: nJ r
def nT (l : List Jb) : Nat → Nat → List (List UInt8)
  | 0, _ => []
  | k + 1, i => match l[i]? with
    | none => []
    | some j => if j.noted = true then nT l k (i + 1) else lnS l i false :: nT l k (i + 1)
abbrev FN : Fin := .cl [.tmp 2, .tmp 3]
def outN (a : List Jb) (b : List (List UInt8)) : AV × List AO := (.tup [.ref 0 0 0 a.length, .ref 1 0 0 b.length], [.row 42 7 0 (a.map encJ), .row 9 1 0 (b.map .str)])
theorem t23 (l : List Jb) (hl : l.length ≤ 1000000) (hb : ∀ j ∈ l, BJ j) (hw : ∀ j ∈ l, WJ j) (hs : ∀ j ∈ l, SJ j) : ∀ (k i : Nat) (A : List Jb) (B : List (List UInt8)) (Z : List AO), i + k = l.length → A.length ≤ i → B.length ≤ i →
    run tbl FN [.blk 0, .seq (f23r13.seq .ret)] (.loop [5, 4, 11, 10, 9, 0] f23b12) [(5, .ref 3 B.length 0 B.length), (4, .ref 2 A.length 0 A.length), (11, .int .i64 i), (10, .int .i64 l.length), (9, .ref 4 0 0 l.length), (0, jl l)]
      (.row 42 7 0 [] :: .row 9 1 0 [] :: .row 42 7 A.length (A.map encJ) :: .row 9 1 B.length (B.map .str) :: .row 42 7 0 (l.map encJ) :: Z) = some (outN (A ++ nJ (l.drop i)) (B ++ nT l k i))
  | 0, i, A, B, Z, h, hA, hB => by
    obtain rfl : i = l.length := by omega
    rw [run_loopD _ _ f23b12_eq]
    simp [nJ, nT, outN]
    skip
  | k + 1, i, A, B, Z, h, hA, hB => by
    have hi : i < l.length := by omega
    have ws := wrapS i (by omega)
    have ih := fun (A' : List Jb) (B' : List (List UInt8)) (Z' : List AO) (h1 : A'.length ≤ i + 1) (h2 : B'.length ≤ i + 1) => t23 l hl hb hw hs k (i + 1) A' B' Z' (by omega) h1 h2
    rw [Int.natCast_succ] at ih
    have e1 := c18 l hl hb hw hs i false
    rw [drop_step hi]
    have hL : l[i]? = some l[i] := List.getElem?_eq_getElem hi
    have hT : nT l (k + 1) i = if l[i].noted = true then nT l k (i + 1) else lnS l i false :: nT l k (i + 1) := by simp only [nT, hL]
    rw [hT]
    generalize hj : l[i] = j
    have hg : (l.map encJ)[i]? = some (encJ j) := by rw [List.getElem?_map, hL, hj]; rfl
    rw [run_loopD _ _ f23b12_eq]
    simp only [nJ]
    by_cases hn : j.noted = true
    · by_cases h3 : j.state = 3
      · have i1 := fun Z' => ih A B Z' (by omega) (by omega)
        simp [hi, hj, hg, hn, h3, ws, i1, -List.getElem_cons_drop, -List.map_drop]
      · have i1 := fun Z' => ih (A ++ [{ j with noted := true }]) B Z' (by simp; omega) (by omega)
        simp [encJ] at i1
        simp [hi, hj, hg, hn, h3, ws, i1, encJ, show A.length ≤ 1073741823 by omega, -List.getElem_cons_drop, -List.map_drop]
    · have hn' : j.noted = false := by simpa using hn
      by_cases h3 : j.state = 3
      · have i1 := fun Z' => ih A (B ++ [lnS l i false]) Z' (by omega) (by simp; omega)
        simp at i1
        simp [hi, hj, hg, hn', h3, ws, e1, i1, show B.length ≤ 1073741823 by omega, -List.getElem_cons_drop, -List.map_drop]
      · have i1 := fun Z' => ih (A ++ [{ j with noted := true }]) (B ++ [lnS l i false]) Z' (by simp; omega) (by simp; omega)
        simp [encJ] at i1
        simp [hi, hj, hg, hn', h3, ws, e1, i1, encJ, show A.length ≤ 1073741823 by omega, show B.length ≤ 1073741823 by omega, -List.getElem_cons_drop, -List.map_drop]
theorem c23 (l : List Jb) (hl : l.length ≤ 1000000) (hb : ∀ j ∈ l, BJ j) (hw : ∀ j ∈ l, WJ j) (hs : ∀ j ∈ l, SJ j) : callW tbl 23 [jl l] = some (outN (nJ l) (nT l l.length 0)) := by
  rw [call_run tbl (f := 23) (fn := f23) rfl _ rfl]
  have e := c39 l hl hb
  have h := t23 l hl hb hw hs l.length 0 [] [] [] (by omega) (by simp) (by simp)
  simp at h
  simp [f23, f23body, e, h]
theorem t24 (l : List Jb) (hl : l.length ≤ 1000000) (hb : ∀ j ∈ l, BJ j) (hs : ∀ j ∈ l, SJ j) : ∀ (k i : Nat) (A : List Jb) (B : List (List UInt8)) (Z : List AO), i + k = l.length → A.length ≤ i → B.length ≤ i →
    run tbl FN [.blk 0, .seq (f24r13.seq .ret)] (.loop [5, 4, 6, 0] f24b12) [(5, .ref 3 B.length 0 B.length), (4, .ref 2 A.length 0 A.length), (6, .int .i64 i), (0, jl l)]
      (.row 42 7 0 [] :: .row 9 1 0 [] :: .row 42 7 A.length (A.map encJ) :: .row 9 1 B.length (B.map .str) :: Z) = some (outN (A ++ nJ (l.drop i)) (B ++ nT l k i))
  | 0, i, A, B, Z, h, hA, hB => by
    obtain rfl : i = l.length := by omega
    rw [run_loopD _ _ f24b12_eq]
    simp [nJ, nT, outN]
  | k + 1, i, A, B, Z, h, hA, hB => by
    have hi : i < l.length := by omega
    have ws := wrapS i (by omega)
    have ih := fun (A' : List Jb) (B' : List (List UInt8)) (Z' : List AO) (h1 : A'.length ≤ i + 1) (h2 : B'.length ≤ i + 1) => t24 l hl hb hs k (i + 1) A' B' Z' (by omega) h1 h2
    rw [Int.natCast_succ] at ih
    have e1 := c19 l hl hb hs i false
    rw [drop_step hi]
    have hL : l[i]? = some l[i] := List.getElem?_eq_getElem hi
    have hT : nT l (k + 1) i = if l[i].noted = true then nT l k (i + 1) else lnS l i false :: nT l k (i + 1) := by simp only [nT, hL]
    rw [hT]
    generalize hj : l[i] = j
    have hg : (l.map encJ)[i]? = some (encJ j) := by rw [List.getElem?_map, hL, hj]; rfl
    rw [run_loopD _ _ f24b12_eq]
    simp only [nJ]
    by_cases hn : j.noted = true
    · by_cases h3 : j.state = 3
      · have i1 := fun Z' => ih A B Z' (by omega) (by omega)
        simp [hi, hj, hg, hn, h3, ws, i1, -List.getElem_cons_drop, -List.map_drop]
      · have i1 := fun Z' => ih (A ++ [{ j with noted := true }]) B Z' (by simp; omega) (by omega)
        simp [encJ] at i1
        simp [hi, hj, hg, hn, h3, ws, i1, encJ, show A.length ≤ 1073741823 by omega, -List.getElem_cons_drop, -List.map_drop]
    · have hn' : j.noted = false := by simpa using hn
      by_cases h3 : j.state = 3
      · have i1 := fun Z' => ih A (B ++ [lnS l i false]) Z' (by omega) (by simp; omega)
        simp at i1
        simp [hi, hj, hg, hn', h3, ws, e1, i1, show B.length ≤ 1073741823 by omega, -List.getElem_cons_drop, -List.map_drop]
      · have i1 := fun Z' => ih (A ++ [{ j with noted := true }]) (B ++ [lnS l i false]) Z' (by simp; omega) (by simp; omega)
        simp [encJ] at i1
        simp [hi, hj, hg, hn', h3, ws, e1, i1, encJ, show A.length ≤ 1073741823 by omega, show B.length ≤ 1073741823 by omega, -List.getElem_cons_drop, -List.map_drop]
theorem c24 (l : List Jb) (hl : l.length ≤ 1000000) (hb : ∀ j ∈ l, BJ j) (hs : ∀ j ∈ l, SJ j) : callW tbl 24 [jl l] = some (outN (nJ l) (nT l l.length 0)) := by
  rw [call_run tbl (f := 24) (fn := f24) rfl _ rfl]
  have h := t24 l hl hb hs l.length 0 [] [] [] (by omega) (by simp) (by simp)
  simp at h
  simp [f24, f24body, h]
theorem t25 (b : List (List UInt8)) (hb : b.length ≤ 1000000) : ∀ (k i : Nat), i + k = b.length → run tbl (.cl [.tmp 4]) [.blk 0, .seq (f25r9.seq .ret)] (.loop [0, 1, 5] f25b8) [(0, .sl 1 (b.map .str)), (1, .sl 1 (b.map .str)), (5, .int .i64 i)] [] = some (.bool true, [])
  | 0, i, h => by
    obtain rfl : i = b.length := by omega
    rw [run_loopD _ _ f25b8_eq]
    simp
  | k + 1, i, h => by
    have hi : i < b.length := by omega
    have ih := t25 b hb k (i + 1) (by omega)
    rw [Int.natCast_succ] at ih
    have ws := wrapS i (by omega)
    rw [run_loopD _ _ f25b8_eq]
    simp [hi, ws, ih]
theorem c25 (b : List (List UInt8)) (hb : b.length ≤ 1000000) : callW tbl 25 [.sl 1 (b.map .str), .sl 1 (b.map .str)] = some (.bool true, []) := by
  rw [call_run tbl (f := 25) (fn := f25) rfl _ rfl]
  have h := t25 b hb b.length 0 (by omega)
  simp at h
  simp [f25, f25body, h]
theorem nJ_le (l : List Jb) : (nJ l).length ≤ l.length := by
  induction l with
  | nil => simp [nJ]
  | cons j r ih =>
    simp only [nJ]
    split <;> simp <;> omega
theorem nT_le (l : List Jb) : ∀ (k i : Nat), (nT l k i).length ≤ k
  | 0, _ => by simp [nT]
  | k + 1, i => by
    have := nT_le l k (i + 1)
    simp only [nT]
    split
    · simp
    · split <;> simp <;> omega
theorem nJ_bj {l : List Jb} (h : ∀ j ∈ l, BJ j) : ∀ j ∈ nJ l, BJ j := by
  induction l with
  | nil => simp [nJ]
  | cons j r ih =>
    have ih := ih (fun x hx => h x (by simp [hx]))
    simp only [nJ]
    split
    · exact ih
    · intro x hx
      rcases List.mem_cons.1 hx with rfl | hx
      · exact h j (by simp)
      · exact ih x hx
end Go.Proofs.YtpphfbfmoipoaaaDoor
