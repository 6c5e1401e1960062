/- Prompts: sizes of an environment. No condition. -/
import Derived.Test.YteinopeeicjnjaaDoorRa
namespace Go.Proofs.YteinopeeicjnjaaDoor
open Go.PI
set_option maxRecDepth 100000
set_option maxHeartbeats 8000000
set_option linter.unusedSimpArgs false
def smV (v : Vr) : Bool := decide (v.vl.length ≤ 500) && decide (v.nm.length ≤ 50)
def smP (p : List UInt8) : Bool := decide (p.length ≤ 500)
theorem t8b (e : En) (hp : e.params.length ≤ 1000000) (n : Int) (h16 : callW tbl 16 [pV e.vars] = some (.int .i64 n, [])) : ∀ (k i : Nat), i + k = e.params.length → run tbl (.cl [.tmp 2]) [.blk 2, .seq (f8r15.seq .ret)] (.loop [1, 4] f8b14) [(1, .bptr 0 0), (4, .int .i64 i)] [.box 30 15 (encE e)] = some (.bool ((e.params.drop i).all smP && decide (n = 0)), [])
  | 0, i, h => by
    rw [run_loopD _ _ f8b14_eq, List.drop_eq_nil_of_le (by omega)]
    by_cases hn : n = 0
    · subst hn
      simp [show ¬ i < e.params.length by omega, h16]
    · simp [show ¬ i < e.params.length by omega, h16, hn]
  | k + 1, i, h => by
    have hi : i < e.params.length := by omega
    have ih := t8b e hp n h16 k (i + 1) (by omega)
    rw [Int.natCast_succ] at ih
    rw [run_loopD _ _ f8b14_eq, all_step hi, Bool.and_assoc]
    generalize ((e.params.drop (i + 1)).all smP && decide (n = 0)) = B at ih ⊢
    unfold smP
    by_cases h1 : e.params[i].length ≤ 500
    · simp [hi, h1, show ¬ (500 : Int) < e.params[i].length by omega, wrapS i (by omega), ih]
    · simp [hi, h1, show (500 : Int) < e.params[i].length by omega]
abbrev tail8 : IC := (f8r9.seq (.block 2 (.loop [1, 4] f8b14))).seq (f8r15.seq .ret)
theorem t8a (e : En) (hv : e.vars.length ≤ 1000000) (hp : e.params.length ≤ 1000000) (n : Int) (h16 : callW tbl 16 [pV e.vars] = some (.int .i64 n, [])) : ∀ (k i : Nat), i + k = e.vars.length → run tbl (.cl [.tmp 2]) [.blk 0, .seq tail8] (.loop [1, 3] f8b8) [(1, .bptr 0 0), (3, .int .i64 i)] [.box 30 15 (encE e)] = some (.bool ((e.vars.drop i).all smV && (e.params.all smP && decide (n = 0))), [])
  | 0, i, h => by
    have h9 := t8b e hp n h16 e.params.length 0 (by omega)
    rw [List.drop_zero] at h9
    rw [run_loopD _ _ f8b8_eq, List.drop_eq_nil_of_le (by omega)]
    generalize (e.params.all smP && decide (n = 0)) = B at h9 ⊢
    simp at h9
    simp [show ¬ i < e.vars.length by omega, h9]
  | k + 1, i, h => by
    have hi : i < e.vars.length := by omega
    have ih := t8a e hv hp n h16 k (i + 1) (by omega)
    rw [Int.natCast_succ] at ih
    rw [run_loopD _ _ f8b8_eq, all_step hi, Bool.and_assoc]
    generalize ((e.vars.drop (i + 1)).all smV && (e.params.all smP && decide (n = 0))) = B at ih ⊢
    unfold smV
    by_cases h1 : e.vars[i].vl.length ≤ 500
    · by_cases h2 : e.vars[i].nm.length ≤ 50
      · simp [-f8r9_run, hi, h1, h2, show ¬ (500 : Int) < e.vars[i].vl.length by omega, show ¬ (50 : Int) < e.vars[i].nm.length by omega, wrapS i (by omega), ih]
      · simp [-f8r9_run, hi, h1, h2, show ¬ (500 : Int) < e.vars[i].vl.length by omega, show (50 : Int) < e.vars[i].nm.length by omega]
    · simp [-f8r9_run, hi, h1, show (500 : Int) < e.vars[i].vl.length by omega]
/-- what 'small' says -/
structure Sm (e : En) : Prop where
  v : e.vars.length ≤ 20
  p : e.params.length ≤ 20
  c : e.cwd.length ≤ 500
  n : e.name.length ≤ 500
  vs : ∀ v ∈ e.vars, v.vl.length ≤ 500
  ps : ∀ p ∈ e.params, p.length ≤ 500
theorem c8 (e : En) : ∃ b : Bool, callW tbl 8 [encE e] = some (.bool b, []) ∧ (b = true → Sm e) := by
  rw [call_run tbl (f := 8) (fn := f8) rfl _ rfl]
  by_cases h1 : e.vars.length ≤ 20
  · by_cases h2 : e.params.length ≤ 20
    · by_cases h3 : e.cwd.length ≤ 500
      · by_cases h4 : e.name.length ≤ 500
        · obtain ⟨n, h16⟩ := c16 e.vars h1
          have ht := t8a e (by omega) (by omega) n h16 e.vars.length 0 (by omega)
          rw [List.drop_zero] at ht
          refine ⟨(e.vars.all smV && (e.params.all smP && decide (n = 0))), ?_, fun hb => ?_⟩
          · generalize (e.vars.all smV && (e.params.all smP && decide (n = 0))) = B at ht ⊢
            simp [-f8r9_run] at ht
            simp [-f8r9_run, f8, f8body, show ¬ (20 : Int) < e.vars.length by omega, show ¬ (20 : Int) < e.params.length by omega, show ¬ (500 : Int) < e.cwd.length by omega, show ¬ (500 : Int) < e.name.length by omega, ht]
          · simp only [Bool.and_eq_true, List.all_eq_true, smV, smP, decide_eq_true_eq] at hb
            exact ⟨h1, h2, h3, h4, fun v hv => (hb.1 v hv).1, fun p hp => hb.2.1 p hp⟩
        · exact ⟨false, by simp [f8, f8body, show ¬ (20 : Int) < e.vars.length by omega, show ¬ (20 : Int) < e.params.length by omega, show ¬ (500 : Int) < e.cwd.length by omega, show (500 : Int) < e.name.length by omega], by simp⟩
      · exact ⟨false, by simp [f8, f8body, show ¬ (20 : Int) < e.vars.length by omega, show ¬ (20 : Int) < e.params.length by omega, show (500 : Int) < e.cwd.length by omega], by simp⟩
    · exact ⟨false, by simp [f8, f8body, show ¬ (20 : Int) < e.vars.length by omega, show (20 : Int) < e.params.length by omega], by simp⟩
  · exact ⟨false, by simp [f8, f8body, show (20 : Int) < e.vars.length by omega], by simp⟩
theorem joinT_len5 (s : List UInt8) (hs : s.length ≤ 1) : ∀ (r : List (List UInt8)), (∀ x ∈ r, x.length ≤ 500) → (Lib.joinTail s r).length ≤ r.length * 501
  | [], _ => by simp [Lib.joinTail]
  | x :: r, h => by
    have ih := joinT_len5 s hs r (fun y hy => h y (List.mem_cons_of_mem _ hy))
    have hx := h x (List.mem_cons_self ..)
    simp only [Lib.joinTail, List.map_cons, List.flatten_cons, List.length_append, List.length_cons] at ih ⊢
    omega
theorem join_len5 (s : List UInt8) (hs : s.length ≤ 1) (l : List (List UInt8)) (h : ∀ x ∈ l, x.length ≤ 500) (hl : l.length ≤ 20) : (Lib.join l s).length ≤ 1000000000 := by
  cases l with
  | nil => simp [Lib.join_nil]
  | cons x r =>
    have := joinT_len5 s hs r (fun y hy => h y (List.mem_cons_of_mem _ hy))
    have hx := h x (List.mem_cons_self ..)
    rw [Lib.join_cons, List.length_append]
    simp at hl
    omega
theorem Sm.ok {e : En} (h : Sm e) (h1 : I64 e.stat) (h2 : I64 e.pid) (h3 : I64 e.last) : EnOk e :=
  ⟨by have := h.v; omega, by have := h.p; omega, join_len5 _ (by simp) _ h.ps h.p, join_len5 _ (sep_len _) _ h.ps h.p, h1, h2, h3⟩
end Go.Proofs.YteinopeeicjnjaaDoor
