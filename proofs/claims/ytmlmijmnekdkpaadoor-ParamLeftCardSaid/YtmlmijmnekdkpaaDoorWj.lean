/- Patterns: what the reference computes, third part; the laws ParamTrims and ParamLeft. No condition. -/
import Derived.Test.YtmlmijmnekdkpaaDoorWi
namespace Go.Proofs.YtmlmijmnekdkpaaDoor
open Go.PI
set_option maxRecDepth 100000
set_option maxHeartbeats 8000000
set_option linter.unusedSimpArgs false
def pfF (R : Nat → Bool) (lg : Bool) : Nat → Nat → Nat × Bool → Nat × Bool
  | 0, _, a => a
  | m + 1, k, a => pfF R lg m (k + 1) (if R k = true ∧ (lg = true ∨ a.2 = false) then (k, true) else a)
theorem pfF_stay {R : Nat → Bool} : ∀ (m k : Nat) (a : Nat × Bool), a.2 = true → pfF R false m k a = a
  | 0, _, _, _ => rfl
  | m + 1, k, a, h => by rw [pfF, if_neg (by simp [h]), pfF_stay m (k + 1) a h]
theorem pf_sr {R : Nat → Bool} {lg : Bool} : ∀ (m k : Nat) (a : Nat × Bool), lg = true ∨ a.2 = false → pfF R lg (m + 1) k a = srF R lg m k a
  | 0, k, a, h => by
    rw [pfF, pfF, srF]
    cases R k <;> simp [h]
  | m + 1, k, a, h => by
    rw [pfF, srF]
    cases hr : R k
    · simp only [Bool.false_eq_true, false_and, if_false]
      exact pf_sr m (k + 1) a h
    · rw [if_pos ⟨rfl, h⟩, if_pos rfl]
      cases lg
      · rw [if_neg (by simp), pfF_stay _ _ _ rfl]
      · rw [if_pos rfl]; exact pf_sr m (k + 1) _ (.inl rfl)
theorem srF_congr {R S : Nat → Bool} {lg : Bool} : ∀ (m k : Nat) (a : Nat × Bool), (∀ j ≤ k + m, R j = S j) → srF R lg m k a = srF S lg m k a
  | 0, k, a, h => by rw [srF, srF, h k (by omega)]
  | m + 1, k, a, h => by rw [srF, srF, h k (by omega), srF_congr m (k + 1) a (fun j hj => h j (by omega)), srF_congr m (k + 1) (k, true) (fun j hj => h j (by omega))]
theorem srF_none {R : Nat → Bool} {lg : Bool} (m k : Nat) (a : Nat × Bool) (h : ∀ j, R j = false) : srF R lg m k a = a := srF_dead m k a fun j => h (k + j)
/- Match -/
def mtB (p : List It) (t : List UInt8) : Bool := p.all vI && D stI tkI p t p.length t.length
theorem c54 (p : List It) (hp : p.length ≤ 1000000) (hI : ∀ x ∈ p, x.st.length ≤ 1000000) (t : List UInt8) (ht : t.length ≤ 1000000) : callW tbl 54 [pI p, .str t] = some (.bool (mtB p t), []) := by
  rw [call_run tbl (f := 54) (fn := f54) rfl _ rfl]
  have h55 := c55 p hp hI
  unfold mtB
  cases hv : p.all vI
  · rw [hv] at h55
    simp [f54, f54body, h55]
  · rw [hv] at h55
    have hok : ∀ x ∈ p, OkI x := fun x hx => vI_ok (List.all_eq_true.1 hv x hx) (hI x hx)
    have h56 := c56 p hp hok t ht
    simp [f54, f54body, h55, h56]
/- Prefix -/
theorem t37 (p : List It) (t : List UInt8) (ht : t.length ≤ 1000000) (R : Nat → Bool) (lg : Bool) (Z : List AO) : ∀ (m k : Nat) (sz : Nat) (fd : Bool), k + m = t.length + 1 →
    run tbl (.cl [.tmp 6, .tmp 7]) [.blk 0, .seq (f37r11.seq .ret)] (.loop [9, 10, 11, 1, 8, 2] f37b10) [(9, .int .i64 sz), (10, .bool fd), (11, .int .i64 k), (1, .str t), (8, .ref 0 0 0 (t.length + 1)), (2, .bool lg)] (.row 4 1 0 (rwS t.length R) :: Z)
     = some (.tup [.int .i64 (pfF R lg m k (sz, fd)).1, .bool (pfF R lg m k (sz, fd)).2], [])
  | 0, k, sz, fd, h => by
    rw [run_loopD _ _ f37b10_eq]
    simp [show ¬ k ≤ t.length by omega, pfF]
  | m + 1, k, sz, fd, h => by
    have hk : k ≤ t.length := by omega
    have ih := fun sz fd => t37 p t ht R lg Z m (k + 1) sz fd (by omega)
    simp only [Int.natCast_succ] at ih
    rw [run_loopD _ _ f37b10_eq, pfF]
    have hw := wrapS k (by omega)
    cases hr : R k
    · simp [hk, show k < t.length + 1 by omega, hr, hw, ih]
    · cases lg
      · cases fd
        · simp [hk, show k < t.length + 1 by omega, hr, hw, ih]
        · simp [hk, show k < t.length + 1 by omega, hr, hw, ih]
      · simp [hk, show k < t.length + 1 by omega, hr, hw, ih]
theorem c37 (p : List It) (hp : p.length ≤ 1000000) (hI : ∀ x ∈ p, x.st.length ≤ 1000000) (t : List UInt8) (ht : t.length ≤ 1000000) (lg : Bool) : callW tbl 37 [pI p, .str t, .bool lg] = some (.tup [.int .i64 (srV p t lg).1, .bool (srV p t lg).2], []) := by
  rw [call_run tbl (f := 37) (fn := f37) rfl _ rfl]
  have h55 := c55 p hp hI
  unfold srV
  cases hv : p.all vI
  · rw [hv] at h55
    simp [f37, f37body, h55]
  · rw [hv] at h55
    rw [if_pos rfl]
    have hok : ∀ x ∈ p, OkI x := fun x hx => vI_ok (List.all_eq_true.1 hv x hx) (hI x hx)
    have h56 := c56 p hp hok t ht
    have h := t37 p t ht (D stI tkI p t p.length) lg [] (t.length + 1) 0 0 false (by omega)
    rw [pf_sr _ _ _ (.inr rfl)] at h
    generalize srF (D stI tkI p t p.length) lg t.length 0 (0, false) = X at h ⊢
    simp at h
    simp [f37, f37body, h55, h56, h]
/- Suffix -/
theorem t36 (p : List It) (hp : p.length ≤ 1000000) (hI : ∀ x ∈ p, x.st.length ≤ 1000000) (t : List UInt8) (ht : t.length ≤ 1000000) (lg : Bool) : ∀ (m k : Nat) (sz : Nat) (fd : Bool), k + m = t.length + 1 →
    run tbl (.cl [.tmp 6, .tmp 7]) [.blk 0, .seq (f36r8.seq .ret)] (.loop [8, 9, 10, 2, 0, 1] f36b7) [(8, .int .i64 sz), (9, .bool fd), (10, .int .i64 k), (2, .bool lg), (0, pI p), (1, .str t)] []
     = some (.tup [.int .i64 (pfF (fun k => mtB p (t.drop (t.length - k))) lg m k (sz, fd)).1, .bool (pfF (fun k => mtB p (t.drop (t.length - k))) lg m k (sz, fd)).2], [])
  | 0, k, sz, fd, h => by
    rw [run_loopD _ _ f36b7_eq]
    simp [show ¬ k ≤ t.length by omega, pfF]
  | m + 1, k, sz, fd, h => by
    have hk : k ≤ t.length := by omega
    have ih := fun sz fd => t36 p hp hI t ht lg m (k + 1) sz fd (by omega)
    simp only [Int.natCast_succ] at ih
    rw [run_loopD _ _ f36b7_eq, pfF]
    have h54 := c54 p hp hI (t.drop (t.length - k)) (by simp; omega)
    have hw := wrapS k (by omega)
    have w1 := wrap64 ((t.length : Int) - (k : Int)) (by omega) (by omega)
    have w2 : ((t.length : Int) - (k : Int)).toNat = t.length - k := by omega
    have w3 : (t.drop (t.length - k)).take k = t.drop (t.length - k) := List.take_of_length_le (by simp; omega)
    have w4 : t.length - (t.length - k) = k := by omega
    generalize mtB p (t.drop (t.length - k)) = r at h54 ⊢
    cases lg
    · cases fd
      · cases r <;> simp [hk, hw, w1, w2, w3, w4, show (k : Int) ≤ t.length by omega, show (0 : Int) ≤ (t.length : Int) - k by omega, h54, ih]
      · simp [hk, hw, ih]
    · cases r <;> simp [hk, hw, w1, w2, w3, w4, show (k : Int) ≤ t.length by omega, show (0 : Int) ≤ (t.length : Int) - k by omega, h54, ih]
theorem mt_rev (p : List It) (t : List UInt8) (k : Nat) (hk : k ≤ t.length) : D stI tkI p.reverse t.reverse p.reverse.length k = D stI tkI p (t.drop (t.length - k)) p.length (t.drop (t.length - k)).length := by
  rw [Bool.eq_iff_iff, D_mat _ _ (Nat.le_refl _) (by simpa using hk), D_mat _ _ (Nat.le_refl _) (Nat.le_refl _), List.take_length, List.take_length, List.take_length, List.take_reverse]
  exact mat_rev
theorem all_rev (p : List It) : p.reverse.all vI = p.all vI := by simp
theorem sfx_eq (p : List It) (t : List UInt8) (lg : Bool) : srF (fun k => mtB p (t.drop (t.length - k))) lg t.length 0 (0, false) = srV p.reverse t.reverse lg := by
  unfold srV
  rw [all_rev]
  cases hv : p.all vI
  · rw [srF_none _ _ _ (fun j => by simp [mtB, hv])]; simp
  · rw [if_pos rfl, show t.reverse.length = t.length by simp]
    refine srF_congr _ _ _ fun j hj => ?_
    rw [mt_rev p t j (by omega)]
    simp only [mtB, hv, Bool.true_and]
theorem c36 (p : List It) (hp : p.length ≤ 1000000) (hI : ∀ x ∈ p, x.st.length ≤ 1000000) (t : List UInt8) (ht : t.length ≤ 1000000) (lg : Bool) : callW tbl 36 [pI p, .str t, .bool lg] = some (.tup [.int .i64 (srV p.reverse t.reverse lg).1, .bool (srV p.reverse t.reverse lg).2], []) := by
  rw [call_run tbl (f := 36) (fn := f36) rfl _ rfl]
  have h := t36 p hp hI t ht lg (t.length + 1) 0 0 false (by omega)
  rw [pf_sr _ _ _ (.inr rfl), sfx_eq] at h
  generalize srV p.reverse t.reverse lg = X at h ⊢
  simp at h
  simp [f36, f36body, h]
theorem srF_false {R : Nat → Bool} {lg : Bool} : ∀ (m k : Nat) (a : Nat × Bool), (srF R lg m k a).2 = false → srF R lg m k a = a
  | 0, k, a, h => by
    rw [srF] at h ⊢
    split at h
    · cases h
    · rename_i c; rw [if_neg c]
  | m + 1, k, a, h => by
    rw [srF] at h ⊢
    split at h
    · rename_i c
      split at h
      · have := srF_false m (k + 1) _ h
        rw [this] at h; cases h
      · cases h
    · rename_i c
      rw [if_neg c]; exact srF_false m (k + 1) a h
theorem srV_false {p : List It} {t : List UInt8} {lg : Bool} (h : (srV p t lg).2 = false) : (srV p t lg).1 = 0 := by
  unfold srV at h ⊢
  split at h
  · rename_i c
    rw [if_pos c, srF_false _ _ _ h]
  · rename_i c
    rw [if_neg c]
theorem cutS_eq (t : List UInt8) (p : List It) (u : List UInt8) (lg : Bool) : cutS t (srV p u lg) = t.take (t.length - (srV p u lg).1) := by
  unfold cutS
  cases h : (srV p u lg).2
  · rw [srV_false h]; simp
  · simp
theorem cutP_eq (t : List UInt8) (p : List It) (u : List UInt8) (lg : Bool) : cutP t (srV p u lg) = t.drop (srV p u lg).1 := by
  unfold cutP
  cases h : (srV p u lg).2
  · rw [srV_false h]; simp
  · simp
theorem c20 (op : Int) (p : List It) (hp : p.length ≤ 1000000) (hI : ∀ x ∈ p, x.st.length ≤ 1000000) (t : List UInt8) (ht : t.length ≤ 1000000) :
    callW tbl 20 [.int .i64 op, .str t, pI p] = some (.str (trV op t p), []) := by
  rw [call_run tbl (f := 20) (fn := f20) rfl _ rfl]
  unfold trV
  have h36 := c36 p hp hI t ht
  have h37 := c37 p hp hI t ht
  have l36 := fun lg => srV_le p.reverse t.reverse lg
  have l37 := fun lg => srV_le p t lg
  simp only [cutS_eq, cutP_eq]
  by_cases e6 : op = 6
  · subst e6
    have h := h36 false
    have l := l36 false
    rw [if_neg (by omega), if_pos rfl]
    generalize srV p.reverse t.reverse false = X at h l ⊢
    obtain ⟨a, b⟩ := X
    simp at l
    have w := wrap64 ((t.length : Int) - (a : Int)) (by omega) (by omega)
    have w2 : ((t.length : Int) - (a : Int)).toNat = t.length - a := by omega
    simp [f20, f20body, h, w, w2, show (a : Int) ≤ t.length by omega, show (0 : Int) ≤ (t.length : Int) - a by omega, show t.length - a ≤ t.length by omega]
  by_cases e7 : op = 7
  · subst e7
    have h := h36 true
    have l := l36 true
    rw [if_pos rfl]
    generalize srV p.reverse t.reverse true = X at h l ⊢
    obtain ⟨a, b⟩ := X
    simp at l
    have w := wrap64 ((t.length : Int) - (a : Int)) (by omega) (by omega)
    have w2 : ((t.length : Int) - (a : Int)).toNat = t.length - a := by omega
    simp [f20, f20body, e6, h, w, w2, show (a : Int) ≤ t.length by omega, show (0 : Int) ≤ (t.length : Int) - a by omega, show t.length - a ≤ t.length by omega]
  rw [if_neg e7, if_neg e6]
  by_cases e8 : op = 8
  · subst e8
    have h := h37 false
    have l := l37 false
    rw [if_neg (by omega), if_pos rfl]
    generalize srV p t false = X at h l ⊢
    obtain ⟨a, b⟩ := X
    simp at l
    simp [f20, f20body, e7, e6, h, l, List.take_of_length_le]
  by_cases e9 : op = 9
  · subst e9
    have h := h37 true
    have l := l37 true
    rw [if_pos rfl]
    generalize srV p t true = X at h l ⊢
    obtain ⟨a, b⟩ := X
    simp at l
    simp [f20, f20body, e7, e6, e8, h, l, List.take_of_length_le]
  rw [if_neg e9, if_neg e8]
  simp [f20, f20body, e7, e6, e9, e8]
/- Few -/
def bigI (x : It) : Bool := decide (40 < x.st.length) || decide (40 < x.tx.length)
def fewF (p : List It) : Nat → Nat → Bool
  | 0, _ => decide (p.length ≤ 12)
  | k + 1, i => !bigI (p.getD i default) && fewF p k (i + 1)
theorem t18 (p : List It) : ∀ (k i : Nat), i + k = min p.length 13 → run tbl (.cl [.tmp 4]) [.blk 0, .seq (f18r7.seq .ret)] (.loop [1, 0, 5] f18b6) [(1, .int .i64 12), (0, pI p), (5, .int .i64 i)] [] = some (.bool (fewF p k i), [])
  | 0, i, h => by
    rw [run_loopD _ _ f18b6_eq]
    by_cases hl : p.length ≤ 12
    · have hl2 : (p.length : Int) ≤ 12 := by omega
      have hi : ¬ i < p.length := by omega
      simp [hi, fewF, hl, hl2]
    · have hl2 : ¬ (p.length : Int) ≤ 12 := by omega
      have hi2 : ¬ (i : Int) ≤ 12 := by omega
      by_cases hi : i < p.length
      · simp [hi, hi2, fewF, hl, hl2]
      · simp [hi, hi2, fewF, hl, hl2]
  | k + 1, i, h => by
    have hi : i < p.length := by omega
    have hi2 : (i : Int) ≤ 12 := by omega
    have ih := t18 p k (i + 1) (by omega)
    simp only [Int.natCast_succ] at ih
    rw [run_loopD _ _ f18b6_eq, fewF]
    have hgd : p.getD i default = p[i] := by simp [hi]
    rw [hgd]
    unfold bigI
    by_cases h1 : 40 < p[i].st.length
    · have g1 : ¬ (p[i].st.length : Int) ≤ 40 := by omega
      have g2 : (40 : Int) < (p[i].st.length : Int) := by omega
      simp [hi, hi2, h1, g1, g2]
    · have g1 : (p[i].st.length : Int) ≤ 40 := by omega
      have g2 : ¬ (40 : Int) < (p[i].st.length : Int) := by omega
      by_cases h2 : 40 < p[i].tx.length
      · have g3 : ¬ (p[i].tx.length : Int) ≤ 40 := by omega
        have g4 : (40 : Int) < (p[i].tx.length : Int) := by omega
        simp [hi, hi2, h1, h2, g1, g2, g3, g4]
      · have g3 : (p[i].tx.length : Int) ≤ 40 := by omega
        have g4 : ¬ (40 : Int) < (p[i].tx.length : Int) := by omega
        simp [hi, hi2, h1, h2, g1, g2, g3, g4, wrapS i (by omega), ih]
abbrev feB (p : List It) : Bool := fewF p (min p.length 13) 0
theorem c18 (p : List It) : callW tbl 18 [pI p, .int .i64 12] = some (.bool (feB p), []) := by
  rw [call_run tbl (f := 18) (fn := f18) rfl _ rfl]
  have h := t18 p (min p.length 13) 0 (by omega)
  unfold feB
  generalize fewF p (min p.length 13) 0 = R at h ⊢
  simp at h
  simp [f18, f18body, h]
theorem fewF_inv {p : List It} : ∀ (k i : Nat), fewF p k i = true → p.length ≤ 12 ∧ ∀ j, i ≤ j → j < i + k → bigI (p.getD j default) = false
  | 0, i, h => ⟨by simpa [fewF] using h, fun j h1 h2 => by omega⟩
  | k + 1, i, h => by
    rw [fewF, Bool.and_eq_true] at h
    obtain ⟨a, b⟩ := fewF_inv k (i + 1) h.2
    refine ⟨a, fun j h1 h2 => ?_⟩
    by_cases e : j = i
    · subst e; simpa using h.1
    · exact b j (by omega) (by omega)
theorem feB_ok {p : List It} (h : feB p = true) : p.length ≤ 1000000 ∧ ∀ x ∈ p, x.st.length ≤ 1000000 := by
  obtain ⟨a, b⟩ := fewF_inv _ _ h
  refine ⟨by omega, fun x hx => ?_⟩
  obtain ⟨j, hj, rfl⟩ := List.getElem_of_mem hx
  have := b j (by omega) (by omega)
  rw [show p.getD j default = p[j] by simp [hj]] at this
  simp [bigI] at this
  omega
/-- ParamTrims -/
theorem c5 (op : Int) (t : List UInt8) (p : List It) : callW tbl 5 [.int .i64 op, .str t, pI p] = some (.bool true, []) := by
  rw [call_run tbl (f := 5) (fn := f5) rfl _ rfl]
  have h10 := c10
  have h18 := c18 p
  by_cases hl : (40 : Int) < (t.length : Int)
  · simp [f5, f5body, hl, h10]
  · cases hf : feB p
    · rw [hf] at h18
      simp [f5, f5body, hl, h18, h10]
    · rw [hf] at h18
      obtain ⟨o1, o2⟩ := feB_ok hf
      have h19 := c19 op p o1 o2 t (by omega)
      have h20 := c20 op p o1 o2 t (by omega)
      simp [f5, f5body, hl, h18, h10, h19, h20]
theorem srF_ge {R : Nat → Bool} : ∀ (m k : Nat) (a : Nat × Bool), a.1 ≤ k → a.1 ≤ (srF R true m k a).1
  | 0, k, a, h => by rw [srF]; split <;> simp_all
  | m + 1, k, a, h => by
    rw [srF]
    split
    · rw [if_pos rfl]
      have := srF_ge (R := R) m (k + 1) (k, true) (by simp)
      simp at this; omega
    · exact srF_ge m (k + 1) a (by omega)
theorem srF_mono {R : Nat → Bool} : ∀ (m k : Nat) (a : Nat × Bool), a.1 ≤ k → (srF R false m k a).1 ≤ (srF R true m k a).1
  | 0, k, a, h => by rw [srF, srF]; exact Nat.le_refl _
  | m + 1, k, a, h => by
    rw [srF, srF]
    split
    · rw [if_neg (by simp), if_pos rfl]
      exact srF_ge m (k + 1) (k, true) (by simp)
    · exact srF_mono m (k + 1) a (by omega)
theorem srV_mono (p : List It) (t : List UInt8) : (srV p t false).1 ≤ (srV p t true).1 := by
  unfold srV
  split
  · exact srF_mono _ _ _ (by simp)
  · simp
/-- ParamLeft -/
theorem c7 (t : List UInt8) (p : List It) : callW tbl 7 [.str t, pI p] = some (.bool true, []) := by
  rw [call_run tbl (f := 7) (fn := f7) rfl _ rfl]
  have h10 := c10
  have h18 := c18 p
  by_cases hl : (40 : Int) < (t.length : Int)
  · simp [f7, f7body, hl, h10]
  · cases hf : feB p
    · rw [hf] at h18
      simp [f7, f7body, hl, h18, h10]
    · rw [hf] at h18
      obtain ⟨o1, o2⟩ := feB_ok hf
      have h6 := c19 6 p o1 o2 t (by omega)
      have h7 := c19 7 p o1 o2 t (by omega)
      have h8 := c19 8 p o1 o2 t (by omega)
      have h9 := c19 9 p o1 o2 t (by omega)
      simp only [trV, cutS_eq, cutP_eq] at h6 h7 h8 h9
      have m1 := srV_mono p.reverse t.reverse
      have m2 := srV_mono p t
      have l1 := srV_le p.reverse t.reverse true
      have l2 := srV_le p t true
      simp at h6 h7 h8 h9 l1
      generalize (srV p.reverse t.reverse true).1 = b at h7 m1 l1
      generalize (srV p.reverse t.reverse false).1 = a at h6 m1
      generalize (srV p t true).1 = d at h9 m2 l2
      generalize (srV p t false).1 = c at h8 m2
      have q1 : (t.take (t.length - a)).length = t.length - a := by simp
      have q2 : (t.take (t.length - b)).length = t.length - b := by simp
      have q3 : (t.drop c).length = t.length - c := by simp
      have q4 : (t.drop d).length = t.length - d := by simp
      have w3 := wrap64 ((t.length : Int) - ((t.length - c : Nat) : Int)) (by omega) (by omega)
      have w4 := wrap64 ((t.length : Int) - ((t.length - d : Nat) : Int)) (by omega) (by omega)
      have z3 : ((t.length : Int) - ((t.length - c : Nat) : Int)) = (c : Int) := by omega
      have z4 : ((t.length : Int) - ((t.length - d : Nat) : Int)) = (d : Int) := by omega
      rw [z3] at w3
      rw [z4] at w4
      have k3 : (t.drop c).take (t.length - c) = t.drop c := List.take_of_length_le (by simp)
      have k4 : (t.drop d).take (t.length - d) = t.drop d := List.take_of_length_le (by simp)
      simp [f7, f7body, hl, h18, h10, h6, h7, h8, h9, q1, q2, q3, q4, z3, z4, w3, w4, k3, k4, show t.length - a ≤ t.length by omega, show t.length - b ≤ t.length by omega, show ¬ t.length < t.length - a by omega, show ¬ t.length - a < t.length - b by omega, show ¬ t.length < t.length - c by omega, show ¬ t.length - c < t.length - d by omega, show c ≤ t.length by omega, show d ≤ t.length by omega]
theorem spns {c : AV} (h : HasTy (.sl true [.int .u8, .int .u8]) c) : ∃ l : List (Int × Int), c = qL l ∧ l.length ≤ maxLen ∧ ∀ x ∈ l, True :=
  HasTy.structs h (fun cs hl hj => by
    have h0 := Tys.of _ cs hl hj
    obtain ⟨_, _, rfl, k0, h0⟩ := h0.cons_inv
    obtain ⟨_, _, rfl, k1, h0⟩ := h0.cons_inv
    obtain rfl := h0.nil_inv
    obtain ⟨a, rfl, _⟩ := k0.int_inv
    obtain ⟨b, rfl, _⟩ := k1.int_inv
    exact ⟨(a, b), rfl, trivial⟩)
theorem pats {c : AV} (h : HasTy (.sl true [.int .i64, .str, .bool, .sl true [.int .u8, .int .u8]]) c) : ∃ l : List It, c = pI l ∧ l.length ≤ maxLen ∧ ∀ x ∈ l, True :=
  HasTy.structs h (fun cs hl hj => by
    have h0 := Tys.of _ cs hl hj
    obtain ⟨_, _, rfl, k0, h0⟩ := h0.cons_inv
    obtain ⟨_, _, rfl, k1, h0⟩ := h0.cons_inv
    obtain ⟨_, _, rfl, k2, h0⟩ := h0.cons_inv
    obtain ⟨_, _, rfl, k3, h0⟩ := h0.cons_inv
    obtain rfl := h0.nil_inv
    obtain ⟨a, rfl, _⟩ := k0.int_inv
    obtain ⟨b, rfl, _⟩ := k1.str_inv
    obtain ⟨d, rfl⟩ := k2.bool_inv
    obtain ⟨e, rfl, _, _⟩ := spns k3
    exact ⟨⟨a, b, d, e⟩, rfl, trivial⟩)
end Go.Proofs.YtmlmijmnekdkpaaDoor
