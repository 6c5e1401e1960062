/- Patterns: what the reference computes. No condition. -/
import Derived.Test.YtmlmijmnekdkpaaDoorWg
namespace Go.Proofs.YtmlmijmnekdkpaaDoor
open Go.PI
set_option maxRecDepth 100000
set_option maxHeartbeats 8000000
set_option linter.unusedSimpArgs false
abbrev qL (l : List (Int × Int)) : AV := .sl 2 (l.map encQ)
theorem t69 (l : List (Int × Int)) (hl : l.length ≤ 1000000) : ∀ (k j : Nat), j + k = l.length → run tbl (.cl [.tmp 2]) [.blk 0, .seq (f69r7.seq .ret)] (.loop [0, 3] f69b6) [(0, qL l), (3, .int .i64 j)] [] = some (.bool (ascF l k j), [])
  | 0, j, h => by
    rw [run_loopD _ _ f69b6_eq]
    simp [show ¬ j < l.length by omega, ascF]
  | k + 1, j, h => by
    have hj : j < l.length := by omega
    have ih := t69 l hl k (j + 1) (by omega)
    simp only [Int.natCast_succ] at ih
    rw [run_loopD _ _ f69b6_eq, ascF]
    cases j with
    | zero =>
      rw [badQ]
      have hg : l.getD 0 (0, 0) = l[0] := by simp [hj]
      rw [hg]
      by_cases h1 : l[0].2 < l[0].1
      · simp [hj, h1]
      · simp at ih
        simp [hj, h1, ih]
    | succ j =>
      rw [badQ]
      have hg : l.getD (j + 1) (0, 0) = l[j + 1] := by simp [hj]
      have hg2 : l.getD j (0, 0) = l[j] := by simp [show j < l.length by omega]
      rw [hg, hg2]
      have hw := wrapS (j + 1) (by omega)
      simp only [Int.natCast_succ] at ih hw ⊢
      by_cases h1 : l[j + 1].2 < l[j + 1].1
      · simp [hj, h1, show (j : Int) + 1 < l.length by omega, wrap64 (j : Int) (by omega) (by omega), show (0 : Int) ≤ (j : Int) + 1 by omega]
      · by_cases h2 : IntKind.i64.wrap l[j + 1].1 ≤ IntKind.i64.wrap (IntKind.i64.wrap l[j].2 + 1)
        · simp [hj, h1, show (j : Int) + 1 < l.length by omega, wrap64 (j : Int) (by omega) (by omega), show (0 : Int) ≤ (j : Int) + 1 by omega, show (0 : Int) < (j : Int) + 1 by omega, show j < l.length by omega, h2, nearQ]
        · simp [hj, h1, show (j : Int) + 1 < l.length by omega, wrap64 (j : Int) (by omega) (by omega), show (0 : Int) ≤ (j : Int) + 1 by omega, show (0 : Int) < (j : Int) + 1 by omega, show j < l.length by omega, h2, nearQ, hw, ih]
theorem c69 (l : List (Int × Int)) (hl : l.length ≤ 1000000) : callW tbl 69 [qL l] = some (.bool (ascF l l.length 0), []) := by
  rw [call_run tbl (f := 69) (fn := f69) rfl _ rfl]
  have h := t69 l hl l.length 0 (by omega)
  generalize ascF l l.length 0 = R at h ⊢
  simp at h
  simp [f69, f69body, h]
theorem t77 (l : List (Int × Int)) (hl : l.length ≤ 1000000) (b : UInt8) : ∀ (k j : Nat), j + k = l.length → run tbl (.cl [.tmp 4]) [.blk 0, .seq (f77r7.seq .ret)] (.loop [1, 0, 5] f77b6) [(1, .int .u8 b.toNat), (0, qL l), (5, .int .i64 j)] [] = some (.bool ((l.drop j).any (inQ b)), [])
  | 0, j, h => by
    rw [run_loopD _ _ f77b6_eq, List.drop_eq_nil_of_le (by omega)]
    simp [show ¬ j < l.length by omega]
  | k + 1, j, h => by
    have hj : j < l.length := by omega
    have ih := t77 l hl b k (j + 1) (by omega)
    simp only [Int.natCast_succ] at ih
    rw [run_loopD _ _ f77b6_eq, any_stepQ hj]
    generalize (l.drop (j + 1)).any (inQ b) = R at ih ⊢
    unfold inQ
    by_cases h1 : l[j].1 ≤ (b.toNat : Int)
    · by_cases h2 : (b.toNat : Int) ≤ l[j].2
      · simp [hj, h1, h2, wrapS j (by omega), ih]
      · simp [hj, h1, h2, wrapS j (by omega), ih]
    · simp [hj, h1, wrapS j (by omega), ih]
theorem c77 (l : List (Int × Int)) (hl : l.length ≤ 1000000) (b : UInt8) : callW tbl 77 [qL l, .int .u8 b.toNat] = some (.bool (l.any (inQ b)), []) := by
  rw [call_run tbl (f := 77) (fn := f77) rfl _ rfl]
  have h := t77 l hl b l.length 0 (by omega)
  rw [List.drop_zero] at h
  generalize l.any (inQ b) = R at h ⊢
  simp at h
  simp [f77, f77body, h]
theorem c70 (x : It) (b : UInt8) (hx : OkI x) : callW tbl 70 [encI x, .int .u8 b.toNat] = some (.bool (tkI x b), []) := by
  rw [call_run tbl (f := 70) (fn := f70) rfl _ rfl]
  unfold tkI
  by_cases k1 : x.kd = 1
  · rw [if_pos k1]
    cases ht : x.tx with
    | nil => exact absurd ht (hx.2 k1)
    | cons c r =>
      by_cases hc : c = b
      · subst hc
        simp [f70, f70body, eq_true k1, ht]
      · have hc' : ¬ (c.toNat : Int) = b.toNat := fun e => hc (UInt8.toNat_inj.1 (by omega))
        simp [f70, f70body, eq_true k1, ht, hc, hc']
  · rw [if_neg k1]
    by_cases k4 : x.kd = 4
    · rw [if_pos k4]
      have h77 := c77 x.st hx.1 b
      generalize x.st.any (inQ b) = R at h77 ⊢
      simp [f70, f70body, k1, eq_true k4, h77]
      cases R <;> cases x.ng <;> rfl
    · rw [if_neg k4]
      simp [f70, f70body, k1, k4]
theorem t55 (p : List It) (hp : p.length ≤ 1000000) (hI : ∀ x ∈ p, x.st.length ≤ 1000000) : ∀ (k i : Nat) (H : List AO), i + k = p.length →
    run tbl (.cl [.tmp 2]) [.blk 0, .seq (f55r11.seq .ret)] (.loop [0, 3] f55b10) [(0, pI p), (3, .int .i64 i)] H = some (.bool ((p.drop i).all vI), [])
  | 0, i, H, h => by
    rw [run_loopD _ _ f55b10_eq, List.drop_eq_nil_of_le (by omega)]
    simp [show ¬ i < p.length by omega]
  | k + 1, i, H, h => by
    have hi : i < p.length := by omega
    have ih := fun H => t55 p hp hI k (i + 1) H (by omega)
    simp only [Int.natCast_succ] at ih
    rw [run_loopD _ _ f55b10_eq, all_step hi]
    have h69 := c69 p[i].st (hI p[i] (List.getElem_mem hi))
    generalize (p.drop (i + 1)).all vI = R at ih ⊢
    generalize hx : p[i] = x at h69 ⊢
    unfold vI
    generalize ascF x.st x.st.length 0 = w at h69 ⊢
    have hsz : szI x = if x.kd = 1 then 1 else 0 := rfl
    have hw := wrapS i (by omega)
    by_cases k1 : x.kd = 1
    · rw [if_pos k1] at hsz
      have n1 : ¬ x.kd < 1 := by omega
      have n2 : ¬ 4 < x.kd := by omega
      have n3 : ¬ x.kd = 4 := by omega
      by_cases h2 : (x.tx.length : Int) = 1
      · cases hn : x.ng
        · by_cases h3 : 0 < x.st.length
          · simp [hi, hx, eq_true k1, n1, n2, n3, hsz, h2, hn, h3]
          · cases w <;> simp [hi, hx, eq_true k1, n1, n2, n3, hsz, h2, hn, h3, h69, hw, ih]
        · simp [hi, hx, eq_true k1, n1, n2, n3, hsz, h2, hn]
      · simp [hi, hx, eq_true k1, n1, n2, n3, hsz, h2]
    · rw [if_neg k1] at hsz
      by_cases k2 : x.kd < 1
      · simp [hi, hx, k1, k2]
      by_cases k3 : 4 < x.kd
      · simp [hi, hx, k1, k2, k3]
      by_cases h2 : x.tx = []
      · by_cases k4 : x.kd = 4
        · cases w <;> simp [hi, hx, k1, k2, k3, eq_true k4, hsz, h2, h69, hw, ih]
        · cases hn : x.ng
          · by_cases h3 : 0 < x.st.length
            · simp [hi, hx, k1, k2, k3, k4, hsz, h2, hn, h3]
            · cases w <;> simp [hi, hx, k1, k2, k3, k4, hsz, h2, hn, h3, h69, hw, ih]
          · simp [hi, hx, k1, k2, k3, k4, hsz, h2, hn]
      · simp [hi, hx, k1, k2, k3, hsz, h2]
theorem c55 (p : List It) (hp : p.length ≤ 1000000) (hI : ∀ x ∈ p, x.st.length ≤ 1000000) : callW tbl 55 [pI p] = some (.bool (p.all vI), []) := by
  rw [call_run tbl (f := 55) (fn := f55) rfl _ rfl]
  have h := t55 p hp hI p.length 0 [] (by omega)
  rw [List.drop_zero] at h
  generalize p.all vI = R at h ⊢
  simp at h
  simp [f55, f55body, h]
end Go.Proofs.YtmlmijmnekdkpaaDoor
