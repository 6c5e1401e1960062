/- Patterns: what the program computes: search, Prefix. No condition. -/
import Derived.Test.YtmlmijmnekdkpaaDoorWd
namespace Go.Proofs.YtmlmijmnekdkpaaDoor
open Go.PI
set_option maxRecDepth 100000
set_option maxHeartbeats 8000000
set_option linter.unusedSimpArgs false
theorem spr_T0 (p : List It) (t : List UInt8) : ∀ j ≤ p.length, sprF p (fun j => decide (j = 0)) j = T stI tkI p t j 0
  | 0, _ => by rw [sprF, T_zero]; rfl
  | j + 1, h => by
    rw [sprF, spr_T0 p t j (by omega), T_spread p t j (by omega)]
    simp
theorem adv_T (p : List It) (t : List UInt8) (k : Nat) (s : Nat → Bool) (hs : ∀ j ≤ p.length, s j = T stI tkI p t j k) : ∀ j ≤ p.length, sprF p (advP p s (t.getD k 0) p.length) j = T stI tkI p t j (k + 1)
  | 0, _ => by
    rw [sprF, advP, T_step p t k 0 (by omega), hs 0 (by omega), carry, Bool.or_false, st]
    cases decide (0 < p.length) <;> cases T stI tkI p t 0 k <;> cases stI (p.getD 0 default) <;> rfl
  | j + 1, h => by
    rw [sprF, adv_T p t k s hs j (by omega), advP, T_step p t k (j + 1) h, hs (j + 1) h, hs j (by omega), carry, st, decide_eq_true (show j < p.length by omega)]
    generalize T stI tkI p t j (k + 1) = a
    generalize T stI tkI p t j k = b
    generalize T stI tkI p t (j + 1) k = c
    generalize stI (p.getD j default) = d
    generalize stI (p.getD (j + 1) default) = e
    generalize tkI (p.getD j default) (t.getD k 0) = f
    generalize decide (j + 1 < p.length) = g
    revert a b c d e f g
    decide
/- Contains -/
def ixB : List Bool → Nat → Int
  | [], _ => -1
  | x :: r, i => if x = true then (i : Int) else ixB r (i + 1)
theorem ixB_step {l : List Bool} {i : Nat} (h : i < l.length) : ixB (l.drop i) i = if l[i] = true then (i : Int) else ixB (l.drop (i + 1)) (i + 1) := by rw [drop_step h]; rfl
theorem ixB_any : ∀ (l : List Bool) (i : Nat), decide (0 ≤ ixB l i) = l.any id
  | [], i => by simp [ixB]
  | x :: r, i => by
    rw [ixB, List.any_cons]
    cases x
    · have := ixB_any r (i + 1)
      simpa using this
    · simp
abbrev bm (l : List Bool) : List AV := l.map .bool
theorem t75 (l : List Bool) (hl : l.length ≤ 10000000) : ∀ (k i : Nat), i + k = l.length → run tbl (.cl [.tmp 4]) [.blk 0, .seq (f75r8.seq .ret)] (.loop [7, 1, 0, 8] f75b7) [(7, .int .i64 l.length), (1, .bool true), (0, .sl 1 (bm l)), (8, .int .i64 i)] [] = some (.int .i64 (ixB (l.drop i) i), [])
  | 0, i, h => by
    rw [run_loopD _ _ f75b7_eq]
    simp [show ¬ i < l.length by omega, show l.drop i = [] from List.drop_eq_nil_of_le (by omega), ixB]
  | k + 1, i, h => by
    have hi : i < l.length := by omega
    have ih := t75 l hl k (i + 1) (by omega)
    rw [Int.natCast_succ] at ih
    rw [run_loopD _ _ f75b7_eq, ixB_step hi]
    cases e : l[i]
    · simp [hi, e, wrapS i (by omega), ih]
    · simp [hi, e]
theorem c67 (l : List Bool) (hl : l.length ≤ 10000000) : callW tbl 67 [.sl 1 (bm l), .bool true] = some (.bool (l.any id), []) := by
  have h75 : callW tbl 75 [.sl 1 (bm l), .bool true] = some (.int .i64 (ixB l 0), []) := by
    rw [call_run tbl (f := 75) (fn := f75) rfl _ rfl]
    have h := t75 l hl l.length 0 (by omega)
    simp at h
    simp [f75, f75body, h]
  rw [call_run tbl (f := 67) (fn := f67) rfl _ rfl]
  rw [← ixB_any l 0]
  by_cases h0 : 0 ≤ ixB l 0
  · simp [f67, f67body, h75, h0]
  · simp [f67, f67body, h75, h0]
def anyS (n : Nat) (s : Nat → Bool) : Bool := (List.range (n + 1)).any s
theorem c67s (n : Nat) (hn : n ≤ 1000000) (s : Nat → Bool) : callW tbl 67 [.sl 1 (rwS n s), .bool true] = some (.bool (anyS n s), []) := by
  have h := c67 ((List.range (n + 1)).map s) (by simp; omega)
  have e1 : bm ((List.range (n + 1)).map s) = rwS n s := by simp [bm, rwS]
  have e2 : ((List.range (n + 1)).map s).any id = anyS n s := by simp [anyS, List.any_map]
  rw [e1, e2] at h
  exact h
theorem anyS_false {n : Nat} {s : Nat → Bool} (h : anyS n s = false) : ∀ j ≤ n, s j = false := by
  intro j hj
  unfold anyS at h
  rw [List.any_eq_false] at h
  simpa using h j (List.mem_range.2 (by omega))
/-- the first or the last k of those that are left -/
def srF (R : Nat → Bool) (lg : Bool) : Nat → Nat → Nat × Bool → Nat × Bool
  | 0, k, a => if R k = true then (k, true) else a
  | m + 1, k, a => if R k = true then (if lg = true then srF R lg m (k + 1) (k, true) else (k, true)) else srF R lg m (k + 1) a
theorem srF_dead {R : Nat → Bool} {lg : Bool} : ∀ (m k : Nat) (a : Nat × Bool), (∀ j, R (k + j) = false) → srF R lg m k a = a
  | 0, k, a, h => by have := h 0; simp at this; simp [srF, this]
  | m + 1, k, a, h => by
    have := h 0; simp at this
    rw [srF, if_neg (by simp [this])]
    exact srF_dead m (k + 1) a fun j => by rw [Nat.add_assoc, Nat.add_comm 1 j]; exact h (j + 1)
theorem t53 (p : List It) (hp : p.length ≤ 1000000) (hI : ∀ x ∈ p, OkI x) (t : List UInt8) (ht : t.length ≤ 1000000) (lg : Bool) : ∀ (m k : Nat) (sz : Nat) (fd : Bool) (A Z : List AO) (s : Nat → Bool), k + m = t.length → (∀ j ≤ p.length, s j = T stI tkI p t j k) →
    run tbl (.cl [.tmp 8, .tmp 9]) [.blk 0, .seq (f53r15.seq .ret)] (.loop [12, 11, 10, 13, 2, 3, 0, 1] f53b14) [(12, .bool fd), (11, .int .i64 sz), (10, .ref A.length 0 0 (p.length + 1)), (13, .int .i64 k), (2, .int .i64 0), (3, .bool lg), (0, pI p), (1, .str t)] (A ++ .row 4 1 0 (rwS p.length s) :: Z)
     = some (.tup [.int .i64 (srF (D stI tkI p t p.length) lg m k (sz, fd)).1, .bool (srF (D stI tkI p t p.length) lg m k (sz, fd)).2], [])
  | 0, k, sz, fd, A, Z, s, h, hs => by
    rw [run_loopD _ _ f53b14_eq]
    obtain rfl : k = t.length := by omega
    have h1 : s p.length = D stI tkI p t p.length t.length := by rw [hs _ (Nat.le_refl _)]; exact T_last p t _
    rw [srF]
    cases hd : D stI tkI p t p.length t.length
    · rw [hd] at h1
      simp [h1]
    · rw [hd] at h1
      cases lg <;> simp [h1]
  | m + 1, k, sz, fd, A, Z, s, h, hs => by
    have hk : k < t.length := by omega
    have ih := fun sz fd A Z => t53 p hp hI t ht lg m (k + 1) sz fd A Z (sprF p (advP p s (t.getD k 0) p.length)) (by omega) (adv_T p t k s hs)
    simp only [Int.natCast_succ] at ih
    have ih0 := fun sz fd => ih sz fd (A ++ .fz 1 0 (rwS p.length s) :: Z) []
    simp only [List.append_assoc, List.cons_append, List.length_append, List.length_cons] at ih0
    have h68 := c68 p hp hI s (t.getD k 0)
    have h67 := c67s p.length hp s
    have hg : t.getD k 0 = t[k] := by simp [hk]
    rw [hg] at h68 ih0
    rw [run_loopD _ _ f53b14_eq]
    have h1 : s p.length = D stI tkI p t p.length k := by rw [hs _ (Nat.le_refl _)]; exact T_last p t _
    rw [srF]
    have hne : ¬ (k : Int) = t.length := by omega
    cases ha : anyS p.length s
    · have hdead : ∀ j ≤ p.length, T stI tkI p t j k = false := fun j hj => by rw [← hs j hj]; exact anyS_false ha j hj
      have hd : ∀ j, D stI tkI p t p.length (k + j) = false := fun j => by
        rw [← T_last (star := stI) (tk := tkI) p t (k + j)]; exact T_dead' hdead j p.length (Nat.le_refl _)
      have hd0 := hd 0
      simp at hd0
      rw [hd0, if_neg (by simp), srF_dead m (k + 1) _ fun j => by rw [Nat.add_assoc, Nat.add_comm 1 j]; exact hd (j + 1)]
      rw [hd0] at h1
      rw [ha] at h67
      simp [h1, hne, h67]
    · rw [ha] at h67
      cases hd : D stI tkI p t p.length k
      · rw [hd] at h1
        rw [if_neg (by simp)]
        simp [h1, hne, h67, h68, hk, wrapS k (by omega), ih0]
      · rw [hd] at h1
        rw [if_pos rfl]
        cases lg
        · simp [h1]
        · simp [h1, hne, h67, h68, hk, wrapS k (by omega), ih0]
end Go.Proofs.YtmlmijmnekdkpaaDoor
