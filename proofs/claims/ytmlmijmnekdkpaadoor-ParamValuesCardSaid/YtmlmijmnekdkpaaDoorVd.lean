/- Parameters: small environments; ParamUnset and ParamVariables. No condition. -/
import Derived.Test.YtmlmijmnekdkpaaDoorVc
namespace Go.Proofs.YtmlmijmnekdkpaaDoor
open Go.PI
set_option maxRecDepth 100000
set_option maxHeartbeats 8000000
set_option linter.unusedSimpArgs false
def smV (v : Vr) : Bool := decide (v.nm.length ≤ 60) && decide (v.vl.length ≤ 60)
def smP (p : List UInt8) : Bool := decide (p.length ≤ 60)
def smE (e : En) : Bool := decide (e.vars.length ≤ 12) && decide (e.params.length ≤ 12) && decide (e.name.length ≤ 60) && e.vars.all smV && e.params.all smP
theorem all_step {α : Type} {p : α → Bool} {l : List α} {i : Nat} (h : i < l.length) : (l.drop i).all p = (p l[i] && (l.drop (i + 1)).all p) := by rw [drop_step h]; rfl
theorem t9b (e : En) (hp : e.params.length ≤ 1000000) : ∀ (k i : Nat), i + k = e.params.length → run tbl (.cl [.tmp 2]) [.blk 2, .seq (f9r15.seq .ret)] (.loop [1, 4] f9b14) [(1, .bptr 0 0), (4, .int .i64 i)] [.box 30 15 (encE e)] = some (.bool ((e.params.drop i).all smP), [])
  | 0, i, h => by
    rw [run_loopD _ _ f9b14_eq, List.drop_eq_nil_of_le (by omega)]
    simp [show ¬ i < e.params.length by omega]
  | k + 1, i, h => by
    have hi : i < e.params.length := by omega
    have ih := t9b e hp k (i + 1) (by omega)
    rw [Int.natCast_succ] at ih
    rw [run_loopD _ _ f9b14_eq, all_step hi]
    generalize (e.params.drop (i + 1)).all smP = B at ih ⊢
    unfold smP
    by_cases h1 : e.params[i].length ≤ 60
    · simp [hi, h1, show ¬ (60 : Int) < e.params[i].length by omega, wrapS i (by omega), ih]
    · simp [hi, h1, show (60 : Int) < e.params[i].length by omega]
abbrev tail9 : IC := (f9r9.seq (.block 2 (.loop [1, 4] f9b14))).seq (f9r15.seq .ret)
theorem t9a (e : En) (hv : e.vars.length ≤ 1000000) (hp : e.params.length ≤ 1000000) : ∀ (k i : Nat), i + k = e.vars.length → run tbl (.cl [.tmp 2]) [.blk 0, .seq tail9] (.loop [1, 3] f9b8) [(1, .bptr 0 0), (3, .int .i64 i)] [.box 30 15 (encE e)] = some (.bool ((e.vars.drop i).all smV && e.params.all smP), [])
  | 0, i, h => by
    have h9 := t9b e hp e.params.length 0 (by omega)
    rw [List.drop_zero] at h9
    rw [run_loopD _ _ f9b8_eq, List.drop_eq_nil_of_le (by omega)]
    generalize e.params.all smP = B at h9 ⊢
    simp at h9
    simp [show ¬ i < e.vars.length by omega, h9]
  | k + 1, i, h => by
    have hi : i < e.vars.length := by omega
    have ih := t9a e hv hp k (i + 1) (by omega)
    rw [Int.natCast_succ] at ih
    rw [run_loopD _ _ f9b8_eq, all_step hi, Bool.and_assoc]
    generalize ((e.vars.drop (i + 1)).all smV && e.params.all smP) = B at ih ⊢
    unfold smV
    by_cases h1 : e.vars[i].nm.length ≤ 60
    · by_cases h2 : e.vars[i].vl.length ≤ 60
      · simp [-f9r9_run, hi, h1, h2, show ¬ (60 : Int) < e.vars[i].nm.length by omega, show ¬ (60 : Int) < e.vars[i].vl.length by omega, wrapS i (by omega), ih]
      · simp [-f9r9_run, hi, h1, h2, show ¬ (60 : Int) < e.vars[i].nm.length by omega, show (60 : Int) < e.vars[i].vl.length by omega]
    · simp [-f9r9_run, hi, h1, show (60 : Int) < e.vars[i].nm.length by omega]
theorem c9 (e : En) : callW tbl 9 [encE e] = some (.bool (smE e), []) := by
  rw [call_run tbl (f := 9) (fn := f9) rfl _ rfl]
  unfold smE
  by_cases h1 : e.vars.length ≤ 12
  · by_cases h2 : e.params.length ≤ 12
    · by_cases h3 : e.name.length ≤ 60
      · have ht := t9a e (by omega) (by omega) e.vars.length 0 (by omega)
        rw [List.drop_zero] at ht
        rw [show (decide (e.vars.length ≤ 12) && decide (e.params.length ≤ 12) && decide (e.name.length ≤ 60) && e.vars.all smV && e.params.all smP) = (e.vars.all smV && e.params.all smP) by simp [h1, h2, h3]]
        generalize (e.vars.all smV && e.params.all smP) = B at ht ⊢
        simp [-f9r9_run] at ht
        simp [-f9r9_run, f9, f9body, show ¬ (12 : Int) < e.vars.length by omega, show ¬ (12 : Int) < e.params.length by omega, show ¬ (60 : Int) < e.name.length by omega, ht]
      · simp [f9, f9body, h3, show ¬ (12 : Int) < e.vars.length by omega, show ¬ (12 : Int) < e.params.length by omega, show (60 : Int) < e.name.length by omega]
    · simp [f9, f9body, h2, show ¬ (12 : Int) < e.vars.length by omega, show (12 : Int) < e.params.length by omega]
  · simp [f9, f9body, h1, show (12 : Int) < e.vars.length by omega]
theorem sep_len (l : List Vr) : (sepV l).length ≤ 1 := by
  unfold sepV
  split
  · simp; omega
  · simp
theorem joinT_len (s : List UInt8) (hs : s.length ≤ 1) : ∀ (r : List (List UInt8)), (∀ x ∈ r, x.length ≤ 60) → (Lib.joinTail s r).length ≤ r.length * 61
  | [], _ => by simp [Lib.joinTail]
  | x :: r, h => by
    have ih := joinT_len s hs r (fun y hy => h y (List.mem_cons_of_mem _ hy))
    have hx := h x (List.mem_cons_self ..)
    simp only [Lib.joinTail, List.map_cons, List.flatten_cons, List.length_append, List.length_cons] at ih ⊢
    omega
theorem join_len (s : List UInt8) (hs : s.length ≤ 1) (l : List (List UInt8)) (h : ∀ x ∈ l, x.length ≤ 60) (hl : l.length ≤ 12) : (Lib.join l s).length ≤ 1000000000 := by
  cases l with
  | nil => simp [Lib.join_nil]
  | cons x r =>
    have := joinT_len s hs r (fun y hy => h y (List.mem_cons_of_mem _ hy))
    have hx := h x (List.mem_cons_self ..)
    rw [Lib.join_cons, List.length_append]
    simp at hl
    omega
theorem EnOk.of {e : En} (h : smE e = true) (h1 : I64 e.stat) (h2 : I64 e.pid) (h3 : I64 e.last) : EnOk e := by
  simp only [smE, Bool.and_eq_true, decide_eq_true_eq, List.all_eq_true, smP] at h
  obtain ⟨⟨⟨⟨a, b⟩, c⟩, d⟩, f⟩ := h
  exact ⟨by omega, by omega, join_len _ (by simp) _ f b, join_len _ (sep_len _) _ f b, h1, h2, h3⟩
/- what is not set is empty; what is set is valid -/
theorem va_no {e : En} {n : List UInt8} (h : (vaV e n).2 = false) : (vaV e n).1 = [] := by
  unfold vaV at h ⊢
  split at h
  · rename_i h0
    rw [if_pos h0]
    generalize ((n.head?.getD 0).toNat : Int) = c at h ⊢
    unfold spV at h ⊢
    repeat' split at h
    all_goals first | (simp at h; done) | skip
    · rename_i hc
      subst hc
      simp at h
      simp [h, Lib.join_nil]
    · rename_i h1 hc
      subst hc
      simp at h
      simp [h, Lib.join_nil]
    · rename_i h1 h2 h3 h4 h5 h6 hc h8
      subst hc
      simp [h8]
  · rename_i h0
    rw [if_neg h0]
    cases e1 : dgV n with
    | some k =>
      rw [e1] at h
      simp only at h ⊢
      split at h
      · rename_i hk; rw [if_pos hk]
      · cases h
    | none =>
      rw [e1] at h
      simp only at h ⊢
      split at h
      · rename_i hk
        rw [if_pos hk]
        cases e2 : vrO e.vars n with
        | none => rfl
        | some v => rw [e2] at h; cases h
      · rename_i hk; rw [if_neg hk]
theorem va_yes {e : En} {n : List UInt8} (h : (vaV e n).2 = true) : vdB n = true := by
  unfold vaV at h
  unfold vdB
  split at h
  · rename_i h0; simp [h0]
  · cases e1 : dgV n with
    | some k => simp
    | none =>
      rw [e1] at h
      simp only at h
      split at h
      · rename_i hk; simp [hk]
      · cases h
end Go.Proofs.YtmlmijmnekdkpaaDoor
