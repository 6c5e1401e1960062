/- Patterns: what the program computes: fits, spread, advance. No condition. -/
import Derived.Test.YtmlmijmnekdkpaaDoorWb
namespace Go.Proofs.YtmlmijmnekdkpaaDoor
open Go.PI
set_option maxRecDepth 100000
set_option maxHeartbeats 8000000
set_option linter.unusedSimpArgs false
structure It where
  kd : Int
  tx : List UInt8
  ng : Bool
  st : List (Int × Int)
instance : Inhabited It := ⟨⟨0, [], false, []⟩⟩
abbrev encQ (q : Int × Int) : AV := .agg [.int .u8 q.1, .int .u8 q.2]
abbrev encI (x : It) : AV := .agg [.int .i64 x.kd, .str x.tx, .bool x.ng, .sl 2 (x.st.map encQ)]
abbrev pI (l : List It) : AV := .sl 4 (l.map encI)
def stI (x : It) : Bool := decide (x.kd = 3)
def inQ (b : UInt8) (q : Int × Int) : Bool := decide (q.1 ≤ b.toNat) && decide ((b.toNat : Int) ≤ q.2)
def tkI (x : It) (b : UInt8) : Bool := if x.kd = 1 then decide (x.tx.headD 0 = b) else if x.kd = 4 then (x.st.any (inQ b)) != x.ng else true
theorem any_stepQ {α : Type} {p : α → Bool} {l : List α} {i : Nat} (h : i < l.length) : (l.drop i).any p = (p l[i] || (l.drop (i + 1)).any p) := by rw [drop_step h]; rfl
theorem t76 (x : It) (b : UInt8) (hl : x.st.length ≤ 1000000) : ∀ (k i : Nat) (acc : Bool) (Z : List AO), i + k = x.st.length → run tbl (.cl [.tmp 4]) [.blk 1, .seq (f76r12.seq .ret), .blk 0, .seq (f76r13.seq .ret)] (.loop [5, 22, 21, 2, 20, 1] f76b11) [(5, .bool acc), (22, .int .i64 i), (21, .int .i64 x.st.length), (2, .bptr 0 0), (20, .sl 2 (x.st.map encQ)), (1, .int .u8 b.toNat)] (.box 52 4 (encI x) :: Z) = some (.bool ((acc || (x.st.drop i).any (inQ b)) != x.ng), [])
  | 0, i, acc, Z, h => by
    rw [run_loopD _ _ f76b11_eq, List.drop_eq_nil_of_le (by omega)]
    simp [show ¬ i < x.st.length by omega]
    cases acc <;> cases x.ng <;> rfl
  | k + 1, i, acc, Z, h => by
    have hi : i < x.st.length := by omega
    have ih := fun a Z => t76 x b hl k (i + 1) a Z (by omega)
    simp only [Int.natCast_succ] at ih
    rw [run_loopD _ _ f76b11_eq, any_stepQ hi]
    generalize (x.st.drop (i + 1)).any (inQ b) = R at ih ⊢
    unfold inQ
    cases acc
    · by_cases h1 : x.st[i].1 ≤ (b.toNat : Int)
      · by_cases h2 : (b.toNat : Int) ≤ x.st[i].2
        · simp [hi, h1, h2, wrapS i (by omega), ih]
        · simp [hi, h1, h2, wrapS i (by omega), ih]
      · simp [hi, h1, wrapS i (by omega), ih]
    · simp [hi, wrapS i (by omega), ih]
theorem c76 (x : It) (b : UInt8) (hl : x.st.length ≤ 1000000) (h1 : x.kd = 1 → x.tx ≠ []) : callW tbl 76 [encI x, .int .u8 b.toNat] = some (.bool (tkI x b), []) := by
  rw [call_run tbl (f := 76) (fn := f76) rfl _ rfl]
  unfold tkI
  by_cases k1 : x.kd = 1
  · rw [if_pos k1]
    cases ht : x.tx with
    | nil => exact absurd ht (h1 k1)
    | cons c r =>
      by_cases hc : c = b
      · subst hc
        simp [f76, f76body, eq_true k1, ht]
      · have hc' : ¬ (c.toNat : Int) = b.toNat := fun e => hc (UInt8.toNat_inj.1 (by omega))
        simp [f76, f76body, eq_true k1, ht, hc, hc']
  · rw [if_neg k1]
    by_cases k4 : x.kd = 4
    · rw [if_pos k4]
      have ht := t76 x b hl x.st.length 0 false [] (by omega)
      rw [List.drop_zero, Bool.false_or] at ht
      generalize (x.st.any (inQ b) != x.ng) = R at ht ⊢
      simp at ht
      simp [f76, f76body, k1, eq_true k4, ht]
    · rw [if_neg k4]
      simp [f76, f76body, k1, k4]
end Go.Proofs.YtmlmijmnekdkpaaDoor
