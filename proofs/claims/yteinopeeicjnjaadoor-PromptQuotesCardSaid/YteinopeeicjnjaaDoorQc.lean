/- Parameters: Value: what the program computes. No condition. -/
import Derived.Test.YteinopeeicjnjaaDoorQb
namespace Go.Proofs.YteinopeeicjnjaaDoor
open Go.PI
set_option maxRecDepth 100000
set_option maxHeartbeats 8000000
set_option linter.unusedSimpArgs false
structure En where
  name : List UInt8
  vars : List Vr
  params : List (List UInt8)
  fu : List AV
  al : List AV
  tr : List AV
  opts : Int
  stat : Int
  pid : Int
  last : Int
  cwd : List UInt8
  g1 : Int
  g2 : Int
  lvl : Int
  talks : Bool
abbrev encE (e : En) : AV := .agg [.str e.name, pV e.vars, .sl 1 (e.params.map .str), .sl 10 e.fu, .sl 2 e.al, .sl 2 e.tr, .int .i64 e.opts, .int .i64 e.stat, .int .i64 e.pid, .int .i64 e.last, .str e.cwd, .int .i64 e.g1, .int .i64 e.g2, .int .i64 e.lvl, .bool e.talks]
def vrO (l : List Vr) (n : List UInt8) : Option (List UInt8) := match gtV l n with | some v => if v.st = true then some v.vl else none | none => none
abbrev sO (v : Option (List UInt8)) : Option (AV × List AO) := some (.tup [.str (v.getD []), .bool v.isSome], [])
theorem c42 (e : En) (hl : e.vars.length ≤ 1000000) (n : List UInt8) : callW tbl 42 [encE e, .str n] = sO (vrO e.vars n) := by
  rw [call_run tbl (f := 42) (fn := f42) rfl _ rfl]
  have h := c60 hl n
  unfold vrO
  cases hg : gtV e.vars n with
  | none =>
    rw [hg] at h
    simp at h
    simp [f42, f42body, h]
  | some v =>
    rw [hg] at h
    simp at h
    cases hs : v.st
    · simp [f42, f42body, h, hs]
    · simp [f42, f42body, h, hs]
def sepV (l : List Vr) : List UInt8 := match vrO l [73, 70, 83] with | some v => v.take 1 | none => [32]
theorem c56 (e : En) (hl : e.vars.length ≤ 1000000) : callW tbl 56 [encE e] = some (.str (sepV e.vars), []) := by
  rw [call_run tbl (f := 56) (fn := f56) rfl _ rfl]
  have h := c42 e hl [73, 70, 83]
  unfold sepV
  cases hg : vrO e.vars [73, 70, 83] with
  | none =>
    rw [hg] at h
    simp [f56, f56body, h]
  | some v =>
    rw [hg] at h
    cases v with
    | nil => simp [f56, f56body, h]
    | cons a r => simp [f56, f56body, h]
def flb (n q : Int) (c : UInt8) : List UInt8 := if abits .and .i64 n q = 0 then [] else [c]
theorem t57_8 (n q0 q1 q2 q3 q4 q5 q6 q7 : Int) (acc : List UInt8) : run tbl (.cl [.tmp 2]) [.blk 0, .seq (f57r10.seq .ret)] (.loop [4, 9, 8, 0] f57b9) [(4, .str acc), (9, .int .i64 8), (8, .agg [.int .i64 q0, .int .i64 q1, .int .i64 q2, .int .i64 q3, .int .i64 q4, .int .i64 q5, .int .i64 q6, .int .i64 q7]), (0, .int .i64 n)] [.box 86 8 (.agg [.int .i64 q0, .int .i64 q1, .int .i64 q2, .int .i64 q3, .int .i64 q4, .int .i64 q5, .int .i64 q6, .int .i64 q7])] = some (.str (acc ++ []), []) := by
  rw [run_loopD _ _ f57b9_eq]
  simp
theorem s57_7 (n q0 q1 q2 q3 q4 q5 q6 q7 : Int) (acc T : List UInt8) (hm : acc.length + 1 ≤ maxStr) (ih1 : run tbl (.cl [.tmp 2]) [.blk 0, .seq (f57r10.seq .ret)] (.loop [4, 9, 8, 0] f57b9) [(4, .str acc), (9, .int .i64 8), (8, .agg [.int .i64 q0, .int .i64 q1, .int .i64 q2, .int .i64 q3, .int .i64 q4, .int .i64 q5, .int .i64 q6, .int .i64 q7]), (0, .int .i64 n)] [.box 86 8 (.agg [.int .i64 q0, .int .i64 q1, .int .i64 q2, .int .i64 q3, .int .i64 q4, .int .i64 q5, .int .i64 q6, .int .i64 q7])] = some (.str (acc ++ T), [])) (ih2 : run tbl (.cl [.tmp 2]) [.blk 0, .seq (f57r10.seq .ret)] (.loop [4, 9, 8, 0] f57b9) [(4, .str (acc ++ [120])), (9, .int .i64 8), (8, .agg [.int .i64 q0, .int .i64 q1, .int .i64 q2, .int .i64 q3, .int .i64 q4, .int .i64 q5, .int .i64 q6, .int .i64 q7]), (0, .int .i64 n)] [.box 86 8 (.agg [.int .i64 q0, .int .i64 q1, .int .i64 q2, .int .i64 q3, .int .i64 q4, .int .i64 q5, .int .i64 q6, .int .i64 q7])] = some (.str ((acc ++ [120]) ++ T), [])) : run tbl (.cl [.tmp 2]) [.blk 0, .seq (f57r10.seq .ret)] (.loop [4, 9, 8, 0] f57b9) [(4, .str acc), (9, .int .i64 7), (8, .agg [.int .i64 q0, .int .i64 q1, .int .i64 q2, .int .i64 q3, .int .i64 q4, .int .i64 q5, .int .i64 q6, .int .i64 q7]), (0, .int .i64 n)] [.box 86 8 (.agg [.int .i64 q0, .int .i64 q1, .int .i64 q2, .int .i64 q3, .int .i64 q4, .int .i64 q5, .int .i64 q6, .int .i64 q7])] = some (.str (acc ++ (flb n q7 120 ++ T)), []) := by
  rw [run_loopD _ _ f57b9_eq]
  unfold flb
  by_cases hb : abits .and .i64 n q7 = 0
  · rw [if_pos hb]
    simp [eq_true hb, ih1]
  · rw [if_neg hb]
    simp at ih2
    simp [hb, ih2]
    exact hm
theorem t57_7 (n q0 q1 q2 q3 q4 q5 q6 q7 : Int) (acc : List UInt8) (ha : acc.length ≤ 7) : run tbl (.cl [.tmp 2]) [.blk 0, .seq (f57r10.seq .ret)] (.loop [4, 9, 8, 0] f57b9) [(4, .str acc), (9, .int .i64 7), (8, .agg [.int .i64 q0, .int .i64 q1, .int .i64 q2, .int .i64 q3, .int .i64 q4, .int .i64 q5, .int .i64 q6, .int .i64 q7]), (0, .int .i64 n)] [.box 86 8 (.agg [.int .i64 q0, .int .i64 q1, .int .i64 q2, .int .i64 q3, .int .i64 q4, .int .i64 q5, .int .i64 q6, .int .i64 q7])] = some (.str (acc ++ (flb n q7 120 ++ [])), []) :=
  s57_7 n q0 q1 q2 q3 q4 q5 q6 q7 acc _ (by unfold maxStr; omega) (t57_8 n q0 q1 q2 q3 q4 q5 q6 q7 acc) (t57_8 n q0 q1 q2 q3 q4 q5 q6 q7 _)
theorem s57_6 (n q0 q1 q2 q3 q4 q5 q6 q7 : Int) (acc T : List UInt8) (hm : acc.length + 1 ≤ maxStr) (ih1 : run tbl (.cl [.tmp 2]) [.blk 0, .seq (f57r10.seq .ret)] (.loop [4, 9, 8, 0] f57b9) [(4, .str acc), (9, .int .i64 7), (8, .agg [.int .i64 q0, .int .i64 q1, .int .i64 q2, .int .i64 q3, .int .i64 q4, .int .i64 q5, .int .i64 q6, .int .i64 q7]), (0, .int .i64 n)] [.box 86 8 (.agg [.int .i64 q0, .int .i64 q1, .int .i64 q2, .int .i64 q3, .int .i64 q4, .int .i64 q5, .int .i64 q6, .int .i64 q7])] = some (.str (acc ++ T), [])) (ih2 : run tbl (.cl [.tmp 2]) [.blk 0, .seq (f57r10.seq .ret)] (.loop [4, 9, 8, 0] f57b9) [(4, .str (acc ++ [117])), (9, .int .i64 7), (8, .agg [.int .i64 q0, .int .i64 q1, .int .i64 q2, .int .i64 q3, .int .i64 q4, .int .i64 q5, .int .i64 q6, .int .i64 q7]), (0, .int .i64 n)] [.box 86 8 (.agg [.int .i64 q0, .int .i64 q1, .int .i64 q2, .int .i64 q3, .int .i64 q4, .int .i64 q5, .int .i64 q6, .int .i64 q7])] = some (.str ((acc ++ [117]) ++ T), [])) : run tbl (.cl [.tmp 2]) [.blk 0, .seq (f57r10.seq .ret)] (.loop [4, 9, 8, 0] f57b9) [(4, .str acc), (9, .int .i64 6), (8, .agg [.int .i64 q0, .int .i64 q1, .int .i64 q2, .int .i64 q3, .int .i64 q4, .int .i64 q5, .int .i64 q6, .int .i64 q7]), (0, .int .i64 n)] [.box 86 8 (.agg [.int .i64 q0, .int .i64 q1, .int .i64 q2, .int .i64 q3, .int .i64 q4, .int .i64 q5, .int .i64 q6, .int .i64 q7])] = some (.str (acc ++ (flb n q6 117 ++ T)), []) := by
  rw [run_loopD _ _ f57b9_eq]
  unfold flb
  by_cases hb : abits .and .i64 n q6 = 0
  · rw [if_pos hb]
    simp [eq_true hb, ih1]
  · rw [if_neg hb]
    simp at ih2
    simp [hb, ih2]
    exact hm
theorem t57_6 (n q0 q1 q2 q3 q4 q5 q6 q7 : Int) (acc : List UInt8) (ha : acc.length ≤ 6) : run tbl (.cl [.tmp 2]) [.blk 0, .seq (f57r10.seq .ret)] (.loop [4, 9, 8, 0] f57b9) [(4, .str acc), (9, .int .i64 6), (8, .agg [.int .i64 q0, .int .i64 q1, .int .i64 q2, .int .i64 q3, .int .i64 q4, .int .i64 q5, .int .i64 q6, .int .i64 q7]), (0, .int .i64 n)] [.box 86 8 (.agg [.int .i64 q0, .int .i64 q1, .int .i64 q2, .int .i64 q3, .int .i64 q4, .int .i64 q5, .int .i64 q6, .int .i64 q7])] = some (.str (acc ++ (flb n q6 117 ++ (flb n q7 120 ++ []))), []) :=
  s57_6 n q0 q1 q2 q3 q4 q5 q6 q7 acc _ (by unfold maxStr; omega) (t57_7 n q0 q1 q2 q3 q4 q5 q6 q7 acc (by omega)) (t57_7 n q0 q1 q2 q3 q4 q5 q6 q7 _ (by rw [List.length_append, List.length_singleton]; omega))
theorem s57_5 (n q0 q1 q2 q3 q4 q5 q6 q7 : Int) (acc T : List UInt8) (hm : acc.length + 1 ≤ maxStr) (ih1 : run tbl (.cl [.tmp 2]) [.blk 0, .seq (f57r10.seq .ret)] (.loop [4, 9, 8, 0] f57b9) [(4, .str acc), (9, .int .i64 6), (8, .agg [.int .i64 q0, .int .i64 q1, .int .i64 q2, .int .i64 q3, .int .i64 q4, .int .i64 q5, .int .i64 q6, .int .i64 q7]), (0, .int .i64 n)] [.box 86 8 (.agg [.int .i64 q0, .int .i64 q1, .int .i64 q2, .int .i64 q3, .int .i64 q4, .int .i64 q5, .int .i64 q6, .int .i64 q7])] = some (.str (acc ++ T), [])) (ih2 : run tbl (.cl [.tmp 2]) [.blk 0, .seq (f57r10.seq .ret)] (.loop [4, 9, 8, 0] f57b9) [(4, .str (acc ++ [110])), (9, .int .i64 6), (8, .agg [.int .i64 q0, .int .i64 q1, .int .i64 q2, .int .i64 q3, .int .i64 q4, .int .i64 q5, .int .i64 q6, .int .i64 q7]), (0, .int .i64 n)] [.box 86 8 (.agg [.int .i64 q0, .int .i64 q1, .int .i64 q2, .int .i64 q3, .int .i64 q4, .int .i64 q5, .int .i64 q6, .int .i64 q7])] = some (.str ((acc ++ [110]) ++ T), [])) : run tbl (.cl [.tmp 2]) [.blk 0, .seq (f57r10.seq .ret)] (.loop [4, 9, 8, 0] f57b9) [(4, .str acc), (9, .int .i64 5), (8, .agg [.int .i64 q0, .int .i64 q1, .int .i64 q2, .int .i64 q3, .int .i64 q4, .int .i64 q5, .int .i64 q6, .int .i64 q7]), (0, .int .i64 n)] [.box 86 8 (.agg [.int .i64 q0, .int .i64 q1, .int .i64 q2, .int .i64 q3, .int .i64 q4, .int .i64 q5, .int .i64 q6, .int .i64 q7])] = some (.str (acc ++ (flb n q5 110 ++ T)), []) := by
  rw [run_loopD _ _ f57b9_eq]
  unfold flb
  by_cases hb : abits .and .i64 n q5 = 0
  · rw [if_pos hb]
    simp [eq_true hb, ih1]
  · rw [if_neg hb]
    simp at ih2
    simp [hb, ih2]
    exact hm
theorem t57_5 (n q0 q1 q2 q3 q4 q5 q6 q7 : Int) (acc : List UInt8) (ha : acc.length ≤ 5) : run tbl (.cl [.tmp 2]) [.blk 0, .seq (f57r10.seq .ret)] (.loop [4, 9, 8, 0] f57b9) [(4, .str acc), (9, .int .i64 5), (8, .agg [.int .i64 q0, .int .i64 q1, .int .i64 q2, .int .i64 q3, .int .i64 q4, .int .i64 q5, .int .i64 q6, .int .i64 q7]), (0, .int .i64 n)] [.box 86 8 (.agg [.int .i64 q0, .int .i64 q1, .int .i64 q2, .int .i64 q3, .int .i64 q4, .int .i64 q5, .int .i64 q6, .int .i64 q7])] = some (.str (acc ++ (flb n q5 110 ++ (flb n q6 117 ++ (flb n q7 120 ++ [])))), []) :=
  s57_5 n q0 q1 q2 q3 q4 q5 q6 q7 acc _ (by unfold maxStr; omega) (t57_6 n q0 q1 q2 q3 q4 q5 q6 q7 acc (by omega)) (t57_6 n q0 q1 q2 q3 q4 q5 q6 q7 _ (by rw [List.length_append, List.length_singleton]; omega))
theorem s57_4 (n q0 q1 q2 q3 q4 q5 q6 q7 : Int) (acc T : List UInt8) (hm : acc.length + 1 ≤ maxStr) (ih1 : run tbl (.cl [.tmp 2]) [.blk 0, .seq (f57r10.seq .ret)] (.loop [4, 9, 8, 0] f57b9) [(4, .str acc), (9, .int .i64 5), (8, .agg [.int .i64 q0, .int .i64 q1, .int .i64 q2, .int .i64 q3, .int .i64 q4, .int .i64 q5, .int .i64 q6, .int .i64 q7]), (0, .int .i64 n)] [.box 86 8 (.agg [.int .i64 q0, .int .i64 q1, .int .i64 q2, .int .i64 q3, .int .i64 q4, .int .i64 q5, .int .i64 q6, .int .i64 q7])] = some (.str (acc ++ T), [])) (ih2 : run tbl (.cl [.tmp 2]) [.blk 0, .seq (f57r10.seq .ret)] (.loop [4, 9, 8, 0] f57b9) [(4, .str (acc ++ [109])), (9, .int .i64 5), (8, .agg [.int .i64 q0, .int .i64 q1, .int .i64 q2, .int .i64 q3, .int .i64 q4, .int .i64 q5, .int .i64 q6, .int .i64 q7]), (0, .int .i64 n)] [.box 86 8 (.agg [.int .i64 q0, .int .i64 q1, .int .i64 q2, .int .i64 q3, .int .i64 q4, .int .i64 q5, .int .i64 q6, .int .i64 q7])] = some (.str ((acc ++ [109]) ++ T), [])) : run tbl (.cl [.tmp 2]) [.blk 0, .seq (f57r10.seq .ret)] (.loop [4, 9, 8, 0] f57b9) [(4, .str acc), (9, .int .i64 4), (8, .agg [.int .i64 q0, .int .i64 q1, .int .i64 q2, .int .i64 q3, .int .i64 q4, .int .i64 q5, .int .i64 q6, .int .i64 q7]), (0, .int .i64 n)] [.box 86 8 (.agg [.int .i64 q0, .int .i64 q1, .int .i64 q2, .int .i64 q3, .int .i64 q4, .int .i64 q5, .int .i64 q6, .int .i64 q7])] = some (.str (acc ++ (flb n q4 109 ++ T)), []) := by
  rw [run_loopD _ _ f57b9_eq]
  unfold flb
  by_cases hb : abits .and .i64 n q4 = 0
  · rw [if_pos hb]
    simp [eq_true hb, ih1]
  · rw [if_neg hb]
    simp at ih2
    simp [hb, ih2]
    exact hm
theorem t57_4 (n q0 q1 q2 q3 q4 q5 q6 q7 : Int) (acc : List UInt8) (ha : acc.length ≤ 4) : run tbl (.cl [.tmp 2]) [.blk 0, .seq (f57r10.seq .ret)] (.loop [4, 9, 8, 0] f57b9) [(4, .str acc), (9, .int .i64 4), (8, .agg [.int .i64 q0, .int .i64 q1, .int .i64 q2, .int .i64 q3, .int .i64 q4, .int .i64 q5, .int .i64 q6, .int .i64 q7]), (0, .int .i64 n)] [.box 86 8 (.agg [.int .i64 q0, .int .i64 q1, .int .i64 q2, .int .i64 q3, .int .i64 q4, .int .i64 q5, .int .i64 q6, .int .i64 q7])] = some (.str (acc ++ (flb n q4 109 ++ (flb n q5 110 ++ (flb n q6 117 ++ (flb n q7 120 ++ []))))), []) :=
  s57_4 n q0 q1 q2 q3 q4 q5 q6 q7 acc _ (by unfold maxStr; omega) (t57_5 n q0 q1 q2 q3 q4 q5 q6 q7 acc (by omega)) (t57_5 n q0 q1 q2 q3 q4 q5 q6 q7 _ (by rw [List.length_append, List.length_singleton]; omega))
theorem s57_3 (n q0 q1 q2 q3 q4 q5 q6 q7 : Int) (acc T : List UInt8) (hm : acc.length + 1 ≤ maxStr) (ih1 : run tbl (.cl [.tmp 2]) [.blk 0, .seq (f57r10.seq .ret)] (.loop [4, 9, 8, 0] f57b9) [(4, .str acc), (9, .int .i64 4), (8, .agg [.int .i64 q0, .int .i64 q1, .int .i64 q2, .int .i64 q3, .int .i64 q4, .int .i64 q5, .int .i64 q6, .int .i64 q7]), (0, .int .i64 n)] [.box 86 8 (.agg [.int .i64 q0, .int .i64 q1, .int .i64 q2, .int .i64 q3, .int .i64 q4, .int .i64 q5, .int .i64 q6, .int .i64 q7])] = some (.str (acc ++ T), [])) (ih2 : run tbl (.cl [.tmp 2]) [.blk 0, .seq (f57r10.seq .ret)] (.loop [4, 9, 8, 0] f57b9) [(4, .str (acc ++ [102])), (9, .int .i64 4), (8, .agg [.int .i64 q0, .int .i64 q1, .int .i64 q2, .int .i64 q3, .int .i64 q4, .int .i64 q5, .int .i64 q6, .int .i64 q7]), (0, .int .i64 n)] [.box 86 8 (.agg [.int .i64 q0, .int .i64 q1, .int .i64 q2, .int .i64 q3, .int .i64 q4, .int .i64 q5, .int .i64 q6, .int .i64 q7])] = some (.str ((acc ++ [102]) ++ T), [])) : run tbl (.cl [.tmp 2]) [.blk 0, .seq (f57r10.seq .ret)] (.loop [4, 9, 8, 0] f57b9) [(4, .str acc), (9, .int .i64 3), (8, .agg [.int .i64 q0, .int .i64 q1, .int .i64 q2, .int .i64 q3, .int .i64 q4, .int .i64 q5, .int .i64 q6, .int .i64 q7]), (0, .int .i64 n)] [.box 86 8 (.agg [.int .i64 q0, .int .i64 q1, .int .i64 q2, .int .i64 q3, .int .i64 q4, .int .i64 q5, .int .i64 q6, .int .i64 q7])] = some (.str (acc ++ (flb n q3 102 ++ T)), []) := by
  rw [run_loopD _ _ f57b9_eq]
  unfold flb
  by_cases hb : abits .and .i64 n q3 = 0
  · rw [if_pos hb]
    simp [eq_true hb, ih1]
  · rw [if_neg hb]
    simp at ih2
    simp [hb, ih2]
    exact hm
theorem t57_3 (n q0 q1 q2 q3 q4 q5 q6 q7 : Int) (acc : List UInt8) (ha : acc.length ≤ 3) : run tbl (.cl [.tmp 2]) [.blk 0, .seq (f57r10.seq .ret)] (.loop [4, 9, 8, 0] f57b9) [(4, .str acc), (9, .int .i64 3), (8, .agg [.int .i64 q0, .int .i64 q1, .int .i64 q2, .int .i64 q3, .int .i64 q4, .int .i64 q5, .int .i64 q6, .int .i64 q7]), (0, .int .i64 n)] [.box 86 8 (.agg [.int .i64 q0, .int .i64 q1, .int .i64 q2, .int .i64 q3, .int .i64 q4, .int .i64 q5, .int .i64 q6, .int .i64 q7])] = some (.str (acc ++ (flb n q3 102 ++ (flb n q4 109 ++ (flb n q5 110 ++ (flb n q6 117 ++ (flb n q7 120 ++ [])))))), []) :=
  s57_3 n q0 q1 q2 q3 q4 q5 q6 q7 acc _ (by unfold maxStr; omega) (t57_4 n q0 q1 q2 q3 q4 q5 q6 q7 acc (by omega)) (t57_4 n q0 q1 q2 q3 q4 q5 q6 q7 _ (by rw [List.length_append, List.length_singleton]; omega))
theorem s57_2 (n q0 q1 q2 q3 q4 q5 q6 q7 : Int) (acc T : List UInt8) (hm : acc.length + 1 ≤ maxStr) (ih1 : run tbl (.cl [.tmp 2]) [.blk 0, .seq (f57r10.seq .ret)] (.loop [4, 9, 8, 0] f57b9) [(4, .str acc), (9, .int .i64 3), (8, .agg [.int .i64 q0, .int .i64 q1, .int .i64 q2, .int .i64 q3, .int .i64 q4, .int .i64 q5, .int .i64 q6, .int .i64 q7]), (0, .int .i64 n)] [.box 86 8 (.agg [.int .i64 q0, .int .i64 q1, .int .i64 q2, .int .i64 q3, .int .i64 q4, .int .i64 q5, .int .i64 q6, .int .i64 q7])] = some (.str (acc ++ T), [])) (ih2 : run tbl (.cl [.tmp 2]) [.blk 0, .seq (f57r10.seq .ret)] (.loop [4, 9, 8, 0] f57b9) [(4, .str (acc ++ [101])), (9, .int .i64 3), (8, .agg [.int .i64 q0, .int .i64 q1, .int .i64 q2, .int .i64 q3, .int .i64 q4, .int .i64 q5, .int .i64 q6, .int .i64 q7]), (0, .int .i64 n)] [.box 86 8 (.agg [.int .i64 q0, .int .i64 q1, .int .i64 q2, .int .i64 q3, .int .i64 q4, .int .i64 q5, .int .i64 q6, .int .i64 q7])] = some (.str ((acc ++ [101]) ++ T), [])) : run tbl (.cl [.tmp 2]) [.blk 0, .seq (f57r10.seq .ret)] (.loop [4, 9, 8, 0] f57b9) [(4, .str acc), (9, .int .i64 2), (8, .agg [.int .i64 q0, .int .i64 q1, .int .i64 q2, .int .i64 q3, .int .i64 q4, .int .i64 q5, .int .i64 q6, .int .i64 q7]), (0, .int .i64 n)] [.box 86 8 (.agg [.int .i64 q0, .int .i64 q1, .int .i64 q2, .int .i64 q3, .int .i64 q4, .int .i64 q5, .int .i64 q6, .int .i64 q7])] = some (.str (acc ++ (flb n q2 101 ++ T)), []) := by
  rw [run_loopD _ _ f57b9_eq]
  unfold flb
  by_cases hb : abits .and .i64 n q2 = 0
  · rw [if_pos hb]
    simp [eq_true hb, ih1]
  · rw [if_neg hb]
    simp at ih2
    simp [hb, ih2]
    exact hm
theorem t57_2 (n q0 q1 q2 q3 q4 q5 q6 q7 : Int) (acc : List UInt8) (ha : acc.length ≤ 2) : run tbl (.cl [.tmp 2]) [.blk 0, .seq (f57r10.seq .ret)] (.loop [4, 9, 8, 0] f57b9) [(4, .str acc), (9, .int .i64 2), (8, .agg [.int .i64 q0, .int .i64 q1, .int .i64 q2, .int .i64 q3, .int .i64 q4, .int .i64 q5, .int .i64 q6, .int .i64 q7]), (0, .int .i64 n)] [.box 86 8 (.agg [.int .i64 q0, .int .i64 q1, .int .i64 q2, .int .i64 q3, .int .i64 q4, .int .i64 q5, .int .i64 q6, .int .i64 q7])] = some (.str (acc ++ (flb n q2 101 ++ (flb n q3 102 ++ (flb n q4 109 ++ (flb n q5 110 ++ (flb n q6 117 ++ (flb n q7 120 ++ []))))))), []) :=
  s57_2 n q0 q1 q2 q3 q4 q5 q6 q7 acc _ (by unfold maxStr; omega) (t57_3 n q0 q1 q2 q3 q4 q5 q6 q7 acc (by omega)) (t57_3 n q0 q1 q2 q3 q4 q5 q6 q7 _ (by rw [List.length_append, List.length_singleton]; omega))
theorem s57_1 (n q0 q1 q2 q3 q4 q5 q6 q7 : Int) (acc T : List UInt8) (hm : acc.length + 1 ≤ maxStr) (ih1 : run tbl (.cl [.tmp 2]) [.blk 0, .seq (f57r10.seq .ret)] (.loop [4, 9, 8, 0] f57b9) [(4, .str acc), (9, .int .i64 2), (8, .agg [.int .i64 q0, .int .i64 q1, .int .i64 q2, .int .i64 q3, .int .i64 q4, .int .i64 q5, .int .i64 q6, .int .i64 q7]), (0, .int .i64 n)] [.box 86 8 (.agg [.int .i64 q0, .int .i64 q1, .int .i64 q2, .int .i64 q3, .int .i64 q4, .int .i64 q5, .int .i64 q6, .int .i64 q7])] = some (.str (acc ++ T), [])) (ih2 : run tbl (.cl [.tmp 2]) [.blk 0, .seq (f57r10.seq .ret)] (.loop [4, 9, 8, 0] f57b9) [(4, .str (acc ++ [67])), (9, .int .i64 2), (8, .agg [.int .i64 q0, .int .i64 q1, .int .i64 q2, .int .i64 q3, .int .i64 q4, .int .i64 q5, .int .i64 q6, .int .i64 q7]), (0, .int .i64 n)] [.box 86 8 (.agg [.int .i64 q0, .int .i64 q1, .int .i64 q2, .int .i64 q3, .int .i64 q4, .int .i64 q5, .int .i64 q6, .int .i64 q7])] = some (.str ((acc ++ [67]) ++ T), [])) : run tbl (.cl [.tmp 2]) [.blk 0, .seq (f57r10.seq .ret)] (.loop [4, 9, 8, 0] f57b9) [(4, .str acc), (9, .int .i64 1), (8, .agg [.int .i64 q0, .int .i64 q1, .int .i64 q2, .int .i64 q3, .int .i64 q4, .int .i64 q5, .int .i64 q6, .int .i64 q7]), (0, .int .i64 n)] [.box 86 8 (.agg [.int .i64 q0, .int .i64 q1, .int .i64 q2, .int .i64 q3, .int .i64 q4, .int .i64 q5, .int .i64 q6, .int .i64 q7])] = some (.str (acc ++ (flb n q1 67 ++ T)), []) := by
  rw [run_loopD _ _ f57b9_eq]
  unfold flb
  by_cases hb : abits .and .i64 n q1 = 0
  · rw [if_pos hb]
    simp [eq_true hb, ih1]
  · rw [if_neg hb]
    simp at ih2
    simp [hb, ih2]
    exact hm
theorem t57_1 (n q0 q1 q2 q3 q4 q5 q6 q7 : Int) (acc : List UInt8) (ha : acc.length ≤ 1) : run tbl (.cl [.tmp 2]) [.blk 0, .seq (f57r10.seq .ret)] (.loop [4, 9, 8, 0] f57b9) [(4, .str acc), (9, .int .i64 1), (8, .agg [.int .i64 q0, .int .i64 q1, .int .i64 q2, .int .i64 q3, .int .i64 q4, .int .i64 q5, .int .i64 q6, .int .i64 q7]), (0, .int .i64 n)] [.box 86 8 (.agg [.int .i64 q0, .int .i64 q1, .int .i64 q2, .int .i64 q3, .int .i64 q4, .int .i64 q5, .int .i64 q6, .int .i64 q7])] = some (.str (acc ++ (flb n q1 67 ++ (flb n q2 101 ++ (flb n q3 102 ++ (flb n q4 109 ++ (flb n q5 110 ++ (flb n q6 117 ++ (flb n q7 120 ++ [])))))))), []) :=
  s57_1 n q0 q1 q2 q3 q4 q5 q6 q7 acc _ (by unfold maxStr; omega) (t57_2 n q0 q1 q2 q3 q4 q5 q6 q7 acc (by omega)) (t57_2 n q0 q1 q2 q3 q4 q5 q6 q7 _ (by rw [List.length_append, List.length_singleton]; omega))
theorem s57_0 (n q0 q1 q2 q3 q4 q5 q6 q7 : Int) (acc T : List UInt8) (hm : acc.length + 1 ≤ maxStr) (ih1 : run tbl (.cl [.tmp 2]) [.blk 0, .seq (f57r10.seq .ret)] (.loop [4, 9, 8, 0] f57b9) [(4, .str acc), (9, .int .i64 1), (8, .agg [.int .i64 q0, .int .i64 q1, .int .i64 q2, .int .i64 q3, .int .i64 q4, .int .i64 q5, .int .i64 q6, .int .i64 q7]), (0, .int .i64 n)] [.box 86 8 (.agg [.int .i64 q0, .int .i64 q1, .int .i64 q2, .int .i64 q3, .int .i64 q4, .int .i64 q5, .int .i64 q6, .int .i64 q7])] = some (.str (acc ++ T), [])) (ih2 : run tbl (.cl [.tmp 2]) [.blk 0, .seq (f57r10.seq .ret)] (.loop [4, 9, 8, 0] f57b9) [(4, .str (acc ++ [97])), (9, .int .i64 1), (8, .agg [.int .i64 q0, .int .i64 q1, .int .i64 q2, .int .i64 q3, .int .i64 q4, .int .i64 q5, .int .i64 q6, .int .i64 q7]), (0, .int .i64 n)] [.box 86 8 (.agg [.int .i64 q0, .int .i64 q1, .int .i64 q2, .int .i64 q3, .int .i64 q4, .int .i64 q5, .int .i64 q6, .int .i64 q7])] = some (.str ((acc ++ [97]) ++ T), [])) : run tbl (.cl [.tmp 2]) [.blk 0, .seq (f57r10.seq .ret)] (.loop [4, 9, 8, 0] f57b9) [(4, .str acc), (9, .int .i64 0), (8, .agg [.int .i64 q0, .int .i64 q1, .int .i64 q2, .int .i64 q3, .int .i64 q4, .int .i64 q5, .int .i64 q6, .int .i64 q7]), (0, .int .i64 n)] [.box 86 8 (.agg [.int .i64 q0, .int .i64 q1, .int .i64 q2, .int .i64 q3, .int .i64 q4, .int .i64 q5, .int .i64 q6, .int .i64 q7])] = some (.str (acc ++ (flb n q0 97 ++ T)), []) := by
  rw [run_loopD _ _ f57b9_eq]
  unfold flb
  by_cases hb : abits .and .i64 n q0 = 0
  · rw [if_pos hb]
    simp [eq_true hb, ih1]
  · rw [if_neg hb]
    simp at ih2
    simp [hb, ih2]
    exact hm
theorem t57_0 (n q0 q1 q2 q3 q4 q5 q6 q7 : Int) (acc : List UInt8) (ha : acc.length ≤ 0) : run tbl (.cl [.tmp 2]) [.blk 0, .seq (f57r10.seq .ret)] (.loop [4, 9, 8, 0] f57b9) [(4, .str acc), (9, .int .i64 0), (8, .agg [.int .i64 q0, .int .i64 q1, .int .i64 q2, .int .i64 q3, .int .i64 q4, .int .i64 q5, .int .i64 q6, .int .i64 q7]), (0, .int .i64 n)] [.box 86 8 (.agg [.int .i64 q0, .int .i64 q1, .int .i64 q2, .int .i64 q3, .int .i64 q4, .int .i64 q5, .int .i64 q6, .int .i64 q7])] = some (.str (acc ++ (flb n q0 97 ++ (flb n q1 67 ++ (flb n q2 101 ++ (flb n q3 102 ++ (flb n q4 109 ++ (flb n q5 110 ++ (flb n q6 117 ++ (flb n q7 120 ++ []))))))))), []) :=
  s57_0 n q0 q1 q2 q3 q4 q5 q6 q7 acc _ (by unfold maxStr; omega) (t57_1 n q0 q1 q2 q3 q4 q5 q6 q7 acc (by omega)) (t57_1 n q0 q1 q2 q3 q4 q5 q6 q7 _ (by rw [List.length_append, List.length_singleton]; omega))
def flT (n : Int) : List UInt8 := (flb n 32 97 ++ (flb n 128 67 ++ (flb n 1 101 ++ (flb n 8 102 ++ (flb n 64 109 ++ (flb n 16 110 ++ (flb n 2 117 ++ (flb n 4 120 ++ []))))))))
theorem c57 (n : Int) : callW tbl 57 [.int .i64 n] = some (.str (flT n), []) := by
  rw [call_run tbl (f := 57) (fn := f57) rfl _ rfl]
  have h := t57_0 n 32 128 1 8 64 16 2 4 [] (by simp)
  rw [List.nil_append] at h
  unfold flT
  generalize (flb n 32 97 ++ (flb n 128 67 ++ (flb n 1 101 ++ (flb n 8 102 ++ (flb n 64 109 ++ (flb n 16 110 ++ (flb n 2 117 ++ (flb n 4 120 ++ [])))))))) = X at h ⊢
  simp [f57, f57body, h]
theorem c55 (l : List (List UInt8)) (s : List UInt8) (h1 : l.length ≤ 1000000) (h2 : (Lib.join l s).length ≤ 1000000000) : callW tbl 55 [.sl 1 (l.map .str), .str s] = some (.str (Lib.join l s), []) := by
  rw [call_ext tbl rfl]
  rw [show tbl.ext 55 [AV.sl 1 (l.map AV.str), AV.str s] = joinX (.sl 1 (l.map .str)) (.str s) from rfl]
  have h : strsOf (l.map AV.str) = some l := by
    clear h1 h2
    induction l with
    | nil => rfl
    | cons a l ih => simp [strsOf, ih]
  simp [joinX, h, h1, h2]
theorem c32 (n : Int) (h1 : -9223372036854775808 ≤ n) (h2 : n ≤ 9223372036854775807) : callW tbl 32 [.int .i64 n] = some (.str (Lib.itoa n), []) := by
  rw [call_ext tbl rfl]
  show (if -9223372036854775808 ≤ n ∧ n ≤ 9223372036854775807 then _ else none) = _
  rw [if_pos ⟨h1, h2⟩]
abbrev I64 (n : Int) : Prop := -9223372036854775808 ≤ n ∧ n ≤ 9223372036854775807
structure EnOk (e : En) : Prop where
  v : e.vars.length ≤ 1000
  p : e.params.length ≤ 1000
  j1 : (Lib.join e.params [32]).length ≤ 1000000000
  j2 : (Lib.join e.params (sepV e.vars)).length ≤ 1000000000
  st : I64 e.stat
  pd : I64 e.pid
  la : I64 e.last
def spV (e : En) (c : Int) : List UInt8 × Bool :=
  if c = 64 then (Lib.join e.params [32], decide (0 < e.params.length))
  else if c = 42 then (Lib.join e.params (sepV e.vars), decide (0 < e.params.length))
  else if c = 35 then (Lib.itoa e.params.length, true)
  else if c = 63 then (Lib.itoa e.stat, true)
  else if c = 45 then (flT e.opts, true)
  else if c = 36 then (Lib.itoa e.pid, true)
  else if c = 33 then (if e.last = 0 then ([], false) else (Lib.itoa e.last, true))
  else (e.name, true)
abbrev pO (v : List UInt8 × Bool) : Option (AV × List AO) := some (.tup [.str v.1, .bool v.2], [])
theorem c39 (e : En) (he : EnOk e) (c : Int) : callW tbl 39 [encE e, .int .u8 c] = pO (spV e c) := by
  have hp := he.p
  have h39 := c55 e.params [32] (by omega) he.j1
  have h39' := c55 e.params (sepV e.vars) (by omega) he.j2
  have h40 := c56 e (by have := he.v; omega)
  have h41 := c32 e.params.length (by omega) (by omega)
  have h41a := c32 e.stat he.st.1 he.st.2
  have h41b := c32 e.pid he.pd.1 he.pd.2
  have h41c := c32 e.last he.la.1 he.la.2
  have h42 := c57 e.opts
  rw [call_run tbl (f := 39) (fn := f39) rfl _ rfl]
  unfold spV
  by_cases h1 : c = 64
  · subst h1; simp [f39, f39body, h39]
  by_cases h2 : c = 42
  · subst h2; simp [f39, f39body, h40, h39']
  by_cases h3 : c = 35
  · subst h3; simp [f39, f39body, h41]
  by_cases h4 : c = 63
  · subst h4; simp [f39, f39body, h41a]
  by_cases h5 : c = 45
  · subst h5; simp [f39, f39body, h42]
  by_cases h6 : c = 36
  · subst h6; simp [f39, f39body, h41b]
  by_cases h7 : c = 33
  · subst h7
    by_cases h8 : e.last = 0
    · simp [f39, f39body, eq_true h8]
    · simp [f39, f39body, h41c, h8]
  simp [f39, f39body, h1, h2, h3, h4, h5, h6, h7]
def vaV (e : En) (n : List UInt8) : List UInt8 × Bool :=
  if spB n = true then spV e ((n.head?.getD 0).toNat : Int)
  else match dgV n with
    | some k => if k < 1 ∨ e.params.length < k then ([], false) else ((e.params[k - 1]?).getD [], true)
    | none => if nmB n = true then ((vrO e.vars n).getD [], (vrO e.vars n).isSome) else ([], false)
theorem c25 (e : En) (he : EnOk e) (n : List UInt8) (hn : n.length ≤ 1000000) : callW tbl 25 [encE e, .str n] = pO (vaV e n) := by
  have h21 := c38 n
  have h23 := c40 n (by omega)
  have h24 := c41 n
  have h25 := c42 e (by have := he.v; omega) n
  have hp := he.p
  rw [call_run tbl (f := 25) (fn := f25) rfl _ rfl]
  unfold vaV
  cases e1 : spB n
  · rw [e1] at h21
    rw [if_neg (by simp)]
    cases e2 : dgV n with
    | none =>
      rw [e2] at h23
      cases e3 : nmB n
      · rw [e3] at h24
        simp [f25, f25body, h21, h23, h24]
      · rw [e3] at h24
        simp [f25, f25body, h21, h23, h24, h25]
    | some k =>
      rw [e2] at h23
      by_cases h1 : k < 1
      · obtain rfl : k = 0 := by omega
        simp [f25, f25body, h21, h23]
      · by_cases h2 : e.params.length < k
        · simp [f25, f25body, h21, h23, h1, h2, show ¬ (k : Int) < 1 by omega]
        · obtain ⟨j, rfl⟩ : ∃ j, k = j + 1 := ⟨k - 1, by omega⟩
          have hj : j < e.params.length := by omega
          have wj := wrap64 (j : Int) (by omega) (by omega)
          simp only [dgO, Option.getD_some, Option.isSome_some, Int.natCast_succ] at h23
          simp [f25, f25body, h21, h23, h1, h2, show ¬ (j : Int) + 1 < 1 by omega, show ¬ (e.params.length : Int) < (j : Int) + 1 by omega, hj, wj]
  · rw [e1] at h21
    rw [if_pos rfl]
    cases n with
    | nil => cases e1
    | cons b r =>
      have h22 := c39 e he b.toNat
      simp [f25, f25body, h21, h22]
def vdB (n : List UInt8) : Bool := (dgV n).isSome || spB n || nmB n
end Go.Proofs.YteinopeeicjnjaaDoor
