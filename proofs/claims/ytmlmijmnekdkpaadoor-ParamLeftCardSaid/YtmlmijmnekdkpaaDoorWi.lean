/- Patterns: what the reference computes, second part: ends, Match, Prefix, Suffix. No condition. -/
import Derived.Test.YtmlmijmnekdkpaaDoorWh
namespace Go.Proofs.YtmlmijmnekdkpaaDoor
open Go.PI
set_option maxRecDepth 100000
set_option maxHeartbeats 8000000
set_option linter.unusedSimpArgs false
/-- the part of a row that is made -/
def lowF (s : Nat → Bool) (k j : Nat) : Bool := if j < k then s j else false
theorem lowF_0 (s : Nat → Bool) : lowF s 0 = fun _ => false := by funext j; simp [lowF]
theorem lowF_step (s : Nat → Bool) (k : Nat) : upd (lowF s k) k (s k) = lowF s (k + 1) := by
  funext j
  unfold upd lowF
  by_cases e : j = k
  · subst e; simp
  · rw [if_neg e]
    by_cases e2 : j < k
    · rw [if_pos e2, if_pos (by omega)]
    · rw [if_neg e2, if_neg (by omega)]
theorem t56i (p : List It) (hp : p.length ≤ 1000000) (hI : ∀ x ∈ p, OkI x) (t : List UInt8) (ht : t.length ≤ 1000000) (i : Nat) (hi : i < p.length) (c : Nat) (B : List AO) (hB : B[c]? = some (.row 4 1 0 (rwS t.length (D stI tkI p t i)))) (X : Option (AV × List AO))
    (hR : run tbl (.cl [.tmp 4]) [.blk 0, .seq (f56r16.seq .ret)] (.loop [1, 6, 0, 5] f56b15) [(1, .str t), (6, .int .i64 ((i : Int) + 1)), (0, pI p), (5, .ref B.length 0 0 (t.length + 1))] (B ++ [.row 4 1 0 (rwS t.length (D stI tkI p t (i + 1)))]) = X) :
    ∀ (m k : Nat), k + m = t.length + 1 → run tbl (.cl [.tmp 4]) [.blk 2, .seq f56r13, .blk 1, .seq f56r14, .lp [1, 6, 0, 5] f56b15, .blk 0, .seq (f56r16.seq .ret)] (.loop [8, 1, 6, 0, 5, 7] f56b12) [(8, .int .i64 k), (1, .str t), (6, .int .i64 i), (0, pI p), (5, .ref c 0 0 (t.length + 1)), (7, .ref B.length 0 0 (t.length + 1))] (B ++ [.row 4 1 0 (rwS t.length (lowF (D stI tkI p t (i + 1)) k))]) = X
  | 0, k, h => by
    rw [run_loopD _ _ f56b12_eq]
    have e : rwS t.length (lowF (D stI tkI p t (i + 1)) k) = rwS t.length (D stI tkI p t (i + 1)) := rwS_congr fun j hj => by rw [lowF, if_pos (by omega)]
    rw [e]
    simp [show ¬ k ≤ t.length by omega, wrapS i (by omega), hR]
  | m + 1, k, h => by
    have hk : k ≤ t.length := by omega
    have ih := t56i p hp hI t ht i hi c B hB X hR m (k + 1) (by omega)
    rw [← lowF_step, ← rwS_set hk] at ih
    simp only [Int.natCast_succ] at ih
    have hc : ∀ y : AO, (B ++ [y])[c]? = some (.row 4 1 0 (rwS t.length (D stI tkI p t i))) := fun y => getL hB
    have hgd : p.getD i default = p[i] := by simp [hi]
    rw [run_loopD _ _ f56b12_eq]
    by_cases k3 : p[i].kd = 3
    · have hs : stI (p.getD i default) = true := by rw [hgd]; simp [stI, k3]
      cases k with
      | zero =>
        rw [show D stI tkI p t (i + 1) 0 = D stI tkI p t i 0 by rw [D, hs, Bool.true_and]] at ih
        cases hd : D stI tkI p t i 0
        · rw [hd] at ih
          simp at ih
          simp [hi, hc, eq_true k3, hd, ih]
        · rw [hd] at ih
          simp at ih
          simp [hi, hc, eq_true k3, hd, ih]
      | succ k =>
        rw [show D stI tkI p t (i + 1) (k + 1) = (D stI tkI p t i (k + 1) || D stI tkI p t (i + 1) k) by rw [D, if_pos hs]] at ih
        have hw := wrapS (k + 1) (by omega)
        simp only [Int.natCast_succ] at ih hw ⊢
        have hlow : lowF (D stI tkI p t (i + 1)) (k + 1) k = D stI tkI p t (i + 1) k := by simp [lowF]
        have n1 : (0 : Int) ≤ (k : Int) + 1 := by omega
        have n2 : (0 : Int) < (k : Int) + 1 := by omega
        have n3 : (k : Int) + 1 ≤ t.length := by omega
        have n4 := wrap64 (k : Int) (by omega) (by omega)
        have n5 : k < t.length := by omega
        have n6 : k < t.length + 1 := by omega
        cases hd : D stI tkI p t i (k + 1)
        · rw [hd] at ih
          simp at ih
          simp [hi, hc, eq_true k3, hd, n1, n2, n3, n4, n5, n6, hlow, hw, ih]
        · rw [hd] at ih
          simp at ih
          simp [hi, hc, eq_true k3, hd, n1, n2, n3, n4, n5, n6, hlow, hw, ih]
    · have hs : stI (p.getD i default) = false := by rw [hgd]; simp [stI, k3]
      cases k with
      | zero =>
        rw [show D stI tkI p t (i + 1) 0 = false by rw [D, hs, Bool.false_and]] at ih
        simp at ih
        simp [hi, hc, k3, ih]
      | succ k =>
        have n5 : k < t.length := by omega
        rw [show D stI tkI p t (i + 1) (k + 1) = (D stI tkI p t i k && tkI p[i] t[k]) by rw [D, if_neg (by rw [hs]; simp), hgd]; simp [n5]] at ih
        have hw := wrapS (k + 1) (by omega)
        have h70 := c70 p[i] t[k] (hI p[i] (List.getElem_mem hi))
        simp only [Int.natCast_succ] at ih hw ⊢
        have n1 : (0 : Int) ≤ (k : Int) + 1 := by omega
        have n2 : (0 : Int) < (k : Int) + 1 := by omega
        have n3 : (k : Int) + 1 ≤ t.length := by omega
        have n4 := wrap64 (k : Int) (by omega) (by omega)
        have n6 : k < t.length + 1 := by omega
        cases hd : D stI tkI p t i k
        · rw [hd] at ih
          simp at ih
          simp [hi, hc, k3, hd, n1, n2, n3, n4, n5, n6, hw, ih]
        · rw [hd] at ih
          simp at ih
          simp [hi, hc, k3, hd, n1, n2, n3, n4, n5, n6, h70, hw, ih]
theorem t56 (p : List It) (hp : p.length ≤ 1000000) (hI : ∀ x ∈ p, OkI x) (t : List UInt8) (ht : t.length ≤ 1000000) : ∀ (k i : Nat) (c : Nat) (B : List AO), i + k = p.length → B[c]? = some (.row 4 1 0 (rwS t.length (D stI tkI p t i))) →
    run tbl (.cl [.tmp 4]) [.blk 0, .seq (f56r16.seq .ret)] (.loop [1, 6, 0, 5] f56b15) [(1, .str t), (6, .int .i64 i), (0, pI p), (5, .ref c 0 0 (t.length + 1))] B = some (.ref 0 0 0 (t.length + 1), [.row 4 1 0 (rwS t.length (D stI tkI p t p.length))])
  | 0, i, c, B, h, hB => by
    rw [run_loopD _ _ f56b15_eq]
    obtain rfl : i = p.length := by omega
    simp [hB]
  | k + 1, i, c, B, h, hB => by
    have hi : i < p.length := by omega
    have ih := t56 p hp hI t ht k (i + 1) B.length (B ++ [.row 4 1 0 (rwS t.length (D stI tkI p t (i + 1)))]) (by omega) (by simp)
    simp only [Int.natCast_succ] at ih
    have hin := t56i p hp hI t ht i hi c B hB _ ih (t.length + 1) 0 (by omega)
    rw [lowF_0, ← rwS_rep] at hin
    simp at hin
    rw [run_loopD _ _ f56b15_eq]
    simp [hi, wrapS t.length (by omega), show (0 : Int) ≤ (t.length : Int) + 1 by omega, show t.length + 1 ≤ 1073741824 by omega, show t.length ≤ 1073741823 by omega, hin]
theorem c56 (p : List It) (hp : p.length ≤ 1000000) (hI : ∀ x ∈ p, OkI x) (t : List UInt8) (ht : t.length ≤ 1000000) : callW tbl 56 [pI p, .str t] = some (.ref 0 0 0 (t.length + 1), [.row 4 1 0 (rwS t.length (D stI tkI p t p.length))]) := by
  rw [call_run tbl (f := 56) (fn := f56) rfl _ rfl]
  have e : (rwS t.length fun _ => false).set 0 (.bool true) = rwS t.length (D stI tkI p t 0) := by
    rw [rwS_set (Nat.zero_le _)]
    exact rwS_congr fun j _ => by cases j <;> simp [upd, D]
  have h := t56 p hp hI t ht p.length 0 1 [.row 4 1 0 [], .row 4 1 0 (rwS t.length (D stI tkI p t 0))] (by omega) rfl
  rw [← rwS_rep] at e
  simp at h
  simp [f56, f56body, wrapS t.length (by omega), show (0 : Int) ≤ (t.length : Int) + 1 by omega, show t.length + 1 ≤ 1073741824 by omega, show t.length ≤ 1073741823 by omega, e, h]
end Go.Proofs.YtmlmijmnekdkpaaDoor
