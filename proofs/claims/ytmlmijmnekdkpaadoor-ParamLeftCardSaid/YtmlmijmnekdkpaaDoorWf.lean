/- Patterns: which are valid: the program's and the reference's. No condition. -/
import Derived.Test.YtmlmijmnekdkpaaDoorWe
namespace Go.Proofs.YtmlmijmnekdkpaaDoor
open Go.PI
set_option maxRecDepth 100000
set_option maxHeartbeats 8000000
set_option linter.unusedSimpArgs false
/-- a span is too near to the one before it -/
def nearQ (a b : Int × Int) : Bool := decide (IntKind.i64.wrap b.1 ≤ IntKind.i64.wrap (IntKind.i64.wrap a.2 + 1))
def badQ (l : List (Int × Int)) : Nat → Bool
  | 0 => decide ((l.getD 0 (0, 0)).2 < (l.getD 0 (0, 0)).1)
  | j + 1 => decide ((l.getD (j + 1) (0, 0)).2 < (l.getD (j + 1) (0, 0)).1) || nearQ (l.getD j (0, 0)) (l.getD (j + 1) (0, 0))
def ascF (l : List (Int × Int)) : Nat → Nat → Bool
  | 0, _ => true
  | k + 1, j => !badQ l j && ascF l k (j + 1)
def szI (x : It) : Int := if x.kd = 1 then 1 else 0
def vI (x : It) : Bool := !(decide (x.kd < 1) || decide (4 < x.kd) || decide ((x.tx.length : Int) ≠ szI x)) && !(decide (x.kd ≠ 4) && (x.ng || decide (0 < x.st.length))) && ascF x.st x.st.length 0
theorem t65i (p : List It) (x : It) (hx : x.st.length ≤ 1000000) (i : Nat) (A : List AO) (R : Bool) (hR : ∀ H, run tbl (.cl [.tmp 2]) [.blk 0, .seq (f65r20.seq .ret)] (.loop [9, 8, 10] f65b19) [(9, .int .i64 p.length), (8, pI p), (10, .int .i64 ((i : Int) + 1))] H = some (.bool R, [])) (hi : i < 1000000) :
    ∀ (k j : Nat) (Z : List AO), j + k = x.st.length →
    run tbl (.cl [.tmp 2]) [.blk 2, .blk 1, .seq f65r18, .lp [9, 8, 10] f65b19, .blk 0, .seq (f65r20.seq .ret)] (.loop [47, 8, 9, 10, 46, 4, 48] f65b17) [(47, .int .i64 x.st.length), (8, pI p), (9, .int .i64 p.length), (10, .int .i64 i), (46, .sl 2 (x.st.map encQ)), (4, .bptr A.length 0), (48, .int .i64 j)] (A ++ .box 52 4 (encI x) :: Z) = some (.bool (ascF x.st k j && R), [])
  | 0, j, Z, h => by
    rw [run_loopD _ _ f65b17_eq]
    simp [show ¬ j < x.st.length by omega, wrapS i (by omega), hR, ascF]
  | k + 1, j, Z, h => by
    have hj : j < x.st.length := by omega
    have ih := fun Z => t65i p x hx i A R hR hi k (j + 1) Z (by omega)
    simp only [Int.natCast_succ] at ih
    rw [run_loopD _ _ f65b17_eq, ascF]
    cases j with
    | zero =>
      rw [badQ]
      have hg : x.st.getD 0 (0, 0) = x.st[0] := by simp [hj]
      rw [hg]
      by_cases h1 : x.st[0].2 < x.st[0].1
      · simp [hj, h1]
      · simp at ih
        simp [hj, h1, ih]
    | succ j =>
      rw [badQ]
      have hg : x.st.getD (j + 1) (0, 0) = x.st[j + 1] := by simp [hj]
      have hg2 : x.st.getD j (0, 0) = x.st[j] := by simp [show j < x.st.length by omega]
      rw [hg, hg2]
      have hw := wrapS (j + 1) (by omega)
      simp only [Int.natCast_succ] at ih hw ⊢
      by_cases h1 : x.st[j + 1].2 < x.st[j + 1].1
      · simp [hj, h1, show (j : Int) + 1 < x.st.length by omega, wrap64 (j : Int) (by omega) (by omega), show (0 : Int) ≤ (j : Int) + 1 by omega]
      · by_cases h2 : IntKind.i64.wrap x.st[j + 1].1 ≤ IntKind.i64.wrap (IntKind.i64.wrap x.st[j].2 + 1)
        · simp [hj, h1, show (j : Int) + 1 < x.st.length by omega, wrap64 (j : Int) (by omega) (by omega), show (0 : Int) ≤ (j : Int) + 1 by omega, show (0 : Int) < (j : Int) + 1 by omega, show j < x.st.length by omega, h2, nearQ]
        · simp [hj, h1, show (j : Int) + 1 < x.st.length by omega, wrap64 (j : Int) (by omega) (by omega), show (0 : Int) ≤ (j : Int) + 1 by omega, show (0 : Int) < (j : Int) + 1 by omega, show j < x.st.length by omega, h2, nearQ, hw, ih]
theorem all_step {α : Type} {p : α → Bool} {l : List α} {i : Nat} (h : i < l.length) : (l.drop i).all p = (p l[i] && (l.drop (i + 1)).all p) := by rw [drop_step h]; rfl
theorem t65 (p : List It) (hp : p.length ≤ 1000000) (hI : ∀ x ∈ p, x.st.length ≤ 1000000) : ∀ (k i : Nat) (H : List AO), i + k = p.length →
    run tbl (.cl [.tmp 2]) [.blk 0, .seq (f65r20.seq .ret)] (.loop [9, 8, 10] f65b19) [(9, .int .i64 p.length), (8, pI p), (10, .int .i64 i)] H = some (.bool ((p.drop i).all vI), [])
  | 0, i, H, h => by
    rw [run_loopD _ _ f65b19_eq, List.drop_eq_nil_of_le (by omega)]
    simp [show ¬ i < p.length by omega]
  | k + 1, i, H, h => by
    have hi : i < p.length := by omega
    have ih := fun H => t65 p hp hI k (i + 1) H (by omega)
    simp only [Int.natCast_succ] at ih
    rw [run_loopD _ _ f65b19_eq, all_step hi]
    have hx := hI p[i] (List.getElem_mem hi)
    have hin := t65i p p[i] hx i H ((p.drop (i + 1)).all vI) ih (by omega) p[i].st.length 0 [] (by omega)
    simp only [Int.natCast_zero] at hin
    generalize (p.drop (i + 1)).all vI = R at hin ih ⊢
    generalize hx : p[i] = x at hin ⊢
    unfold vI
    generalize ascF x.st x.st.length 0 = w at hin ⊢
    have hsz : szI x = if x.kd = 1 then 1 else 0 := rfl
    have hc0 : ¬ (x.kd = 1 ∧ (x.kd < 1 ∨ 4 < x.kd ∨ x.kd = 4)) := by omega
    by_cases k1 : x.kd = 1
    · rw [if_pos k1] at hsz
      have n1 : ¬ x.kd < 1 := by omega
      have n2 : ¬ 4 < x.kd := by omega
      have n3 : ¬ x.kd = 4 := by omega
      by_cases h2 : (x.tx.length : Int) = 1
      · cases hn : x.ng
        · by_cases h3 : 0 < x.st.length
          · simp [hi, hx, eq_true k1, n1, n2, n3, hsz, h2, hn, h3]
          · rw [encI, hn] at hin
            simp [hi, hx, eq_true k1, n1, n2, n3, hsz, h2, hn, h3, hin]
        · simp [hi, hx, eq_true k1, n1, n2, n3, hsz, h2, hn]
      · simp [hi, hx, eq_true k1, n1, n2, n3, hsz, h2]
    · rw [if_neg k1] at hsz
      by_cases k2 : x.kd < 1
      · simp [hi, hx, k1, k2]
      by_cases k3 : 4 < x.kd
      · simp [hi, hx, k1, k2, k3]
      by_cases h2 : x.tx = []
      · rw [encI, h2] at hin
        by_cases k4 : x.kd = 4
        · simp [hi, hx, k1, k2, k3, eq_true k4, hsz, h2, hin]
        · cases hn : x.ng
          · by_cases h3 : 0 < x.st.length
            · simp [hi, hx, k1, k2, k3, k4, hsz, h2, hn, h3]
            · rw [hn] at hin
              simp [hi, hx, k1, k2, k3, k4, hsz, h2, hn, h3, hin]
          · simp [hi, hx, k1, k2, k3, k4, hsz, h2, hn]
      · simp [hi, hx, k1, k2, k3, hsz, h2]
theorem c65 (p : List It) (hp : p.length ≤ 1000000) (hI : ∀ x ∈ p, x.st.length ≤ 1000000) : callW tbl 65 [pI p] = some (.bool (p.all vI), []) := by
  rw [call_run tbl (f := 65) (fn := f65) rfl _ rfl]
  have h := t65 p hp hI p.length 0 [] (by omega)
  rw [List.drop_zero] at h
  generalize p.all vI = R at h ⊢
  simp at h
  simp [f65, f65body, h]
end Go.Proofs.YtmlmijmnekdkpaaDoor
