/- Parameters: the reference, first part. No condition. -/
import Derived.Test.YteinopeeicjnjaaDoorQc
namespace Go.Proofs.YteinopeeicjnjaaDoor
open Go.PI
set_option maxRecDepth 100000
set_option maxHeartbeats 8000000
set_option linter.unusedSimpArgs false
theorem all_step {α : Type} {p : α → Bool} {l : List α} {i : Nat} (h : i < l.length) : (l.drop i).all p = (p l[i] && (l.drop (i + 1)).all p) := by rw [drop_step h]; rfl
theorem sep_len (l : List Vr) : (sepV l).length ≤ 1 := by
  unfold sepV
  split
  · simp; omega
  · simp
theorem joinT_len (s : List UInt8) (hs : s.length ≤ 1) : ∀ (r : List (List UInt8)), (∀ x ∈ r, x.length ≤ 60) → (Lib.joinTail s r).length ≤ r.length * 61
  | [], _ => by simp [Lib.joinTail]
  | x :: r, h => by
    have ih := joinT_len s hs r (fun y hy => h y (List.mem_cons_of_mem _ hy))
    have hx := h x (List.mem_cons_self ..)
    simp only [Lib.joinTail, List.map_cons, List.flatten_cons, List.length_append, List.length_cons] at ih ⊢
    omega
theorem join_len (s : List UInt8) (hs : s.length ≤ 1) (l : List (List UInt8)) (h : ∀ x ∈ l, x.length ≤ 60) (hl : l.length ≤ 12) : (Lib.join l s).length ≤ 1000000000 := by
  cases l with
  | nil => simp [Lib.join_nil]
  | cons x r =>
    have := joinT_len s hs r (fun y hy => h y (List.mem_cons_of_mem _ hy))
    have hx := h x (List.mem_cons_self ..)
    rw [Lib.join_cons, List.length_append]
    simp at hl
    omega
theorem va_no {e : En} {n : List UInt8} (h : (vaV e n).2 = false) : (vaV e n).1 = [] := by
  unfold vaV at h ⊢
  split at h
  · rename_i h0
    rw [if_pos h0]
    generalize ((n.head?.getD 0).toNat : Int) = c at h ⊢
    unfold spV at h ⊢
    repeat' split at h
    all_goals first | (simp at h; done) | skip
    · rename_i hc
      subst hc
      simp at h
      simp [h, Lib.join_nil]
    · rename_i h1 hc
      subst hc
      simp at h
      simp [h, Lib.join_nil]
    · rename_i h1 h2 h3 h4 h5 h6 hc h8
      subst hc
      simp [h8]
  · rename_i h0
    rw [if_neg h0]
    cases e1 : dgV n with
    | some k =>
      rw [e1] at h
      simp only at h ⊢
      split at h
      · rename_i hk; rw [if_pos hk]
      · cases h
    | none =>
      rw [e1] at h
      simp only at h ⊢
      split at h
      · rename_i hk
        rw [if_pos hk]
        cases e2 : vrO e.vars n with
        | none => rfl
        | some v => rw [e2] at h; cases h
      · rename_i hk; rw [if_neg hk]
theorem wrap8 (n : Int) (h1 : 0 ≤ n) (h2 : n ≤ 255) : IntKind.u8.wrap n = n := by
  unfold IntKind.wrap
  simp [IntKind.bits, IntKind.signed]
  omega
/-- a list of variables, read -/
theorem vrs {c : AV} (h : HasTy (.sl true [.str, .str, .bool, .bool, .bool]) c) : ∃ l : List Vr, c = pV l ∧ l.length ≤ maxLen ∧ ∀ x ∈ l, True :=
  HasTy.structs h (fun cs hl hj => by
    have h0 := Tys.of _ cs hl hj
    obtain ⟨_, _, rfl, k0, h0⟩ := h0.cons_inv
    obtain ⟨_, _, rfl, k1, h0⟩ := h0.cons_inv
    obtain ⟨_, _, rfl, k2, h0⟩ := h0.cons_inv
    obtain ⟨_, _, rfl, k3, h0⟩ := h0.cons_inv
    obtain ⟨_, _, rfl, k4, h0⟩ := h0.cons_inv
    obtain rfl := h0.nil_inv
    obtain ⟨a, rfl, _⟩ := k0.str_inv
    obtain ⟨b, rfl, _⟩ := k1.str_inv
    obtain ⟨d, rfl⟩ := k2.bool_inv
    obtain ⟨d1, rfl⟩ := k3.bool_inv
    obtain ⟨d2, rfl⟩ := k4.bool_inv
    exact ⟨⟨a, b, d, d1, d2⟩, rfl, trivial⟩)
theorem c63 (n : Int) : callW tbl 63 [.int .u8 n] = some (.bool (ltB n), []) := by
  rw [call_run tbl (f := 63) (fn := f63) rfl _ rfl]
  unfold ltB
  by_cases h1 : 97 ≤ n
  · by_cases h2 : n ≤ 122
    · simp [f63, f63body, h1, h2]
    · simp [f63, f63body, h1, h2, show 65 ≤ n by omega, show ¬ n ≤ 90 by omega]
  · by_cases h3 : 65 ≤ n
    · by_cases h4 : n ≤ 90 <;> simp [f63, f63body, h1, h3, h4]
    · simp [f63, f63body, h1, h3]
theorem c49 (n : Int) : callW tbl 49 [.int .u8 n] = some (.bool (dgB n), []) := by
  rw [call_run tbl (f := 49) (fn := f49) rfl _ rfl]
  unfold dgB
  by_cases h1 : 48 ≤ n
  · by_cases h2 : n ≤ 57 <;> simp [f49, f49body, h1, h2]
  · simp [f49, f49body, h1]
theorem c50 (b : UInt8) : callW tbl 50 [.int .u8 b.toNat] = some (.bool (okc b), []) := by
  have h64 := c63 b.toNat
  have h47 := c49 b.toNat
  rw [call_run tbl (f := 50) (fn := f50) rfl _ rfl]
  unfold okc
  cases e1 : ltB b.toNat
  · rw [e1] at h64
    cases e2 : dgB b.toNat
    · rw [e2] at h47
      by_cases e3 : (b.toNat : Int) = 95
      · simp [f50, f50body, h64, h47, eq_true e3]
      · simp [f50, f50body, h64, h47, e3]
    · rw [e2] at h47
      simp [f50, f50body, h64, h47]
  · rw [e1] at h64
    simp [f50, f50body, h64]
theorem t27 (l : List UInt8) (hl : l.length ≤ 1000000) : ∀ (k i : Nat), i + k = l.length → run tbl (.cl [.tmp 2]) [.blk 0, .seq (f27r9.seq .ret)] (.loop [0, 3] f27b8) [(0, .str l), (3, .int .i64 i)] [] = some (.bool (nmT (l.drop i)), [])
  | 0, i, h => by
    rw [run_loopD _ _ f27b8_eq, List.drop_eq_nil_of_le (by omega)]
    simp [show ¬ i < l.length by omega, nmT]
  | k + 1, i, h => by
    have hi : i < l.length := by omega
    have ih := t27 l hl k (i + 1) (by omega)
    rw [Int.natCast_succ] at ih
    have h48 := c50 l[i]
    rw [run_loopD _ _ f27b8_eq, drop_step hi, nmT]
    cases e : okc l[i]
    · rw [e] at h48
      simp [hi, h48]
    · rw [e] at h48
      simp [hi, h48, wrapS i (by omega), ih]
theorem okf_eq (b : UInt8) : okf b = (okc b && !dgB b.toNat) := by
  unfold okf okc ltB dgB
  by_cases h1 : 48 ≤ (b.toNat : Int)
  · by_cases h2 : (b.toNat : Int) ≤ 57
    · simp [h1, h2, show ¬ 65 ≤ (b.toNat : Int) by omega, show ¬ 97 ≤ (b.toNat : Int) by omega, show ¬ (b.toNat : Int) = 95 by omega]
    · simp [h1, h2]
  · simp [h1]
theorem c27 (l : List UInt8) : callW tbl 27 [.str l] = some (.bool (nmB l), []) := by
  rw [call_run tbl (f := 27) (fn := f27) rfl _ rfl]
  unfold nmB
  cases l with
  | nil => simp [f27, f27body]
  | cons b r =>
    by_cases h2 : (b :: r).length ≤ 32
    · have ht := t27 (b :: r) (by omega) (b :: r).length 0 (by omega)
      rw [List.drop_zero] at ht
      have h47 := c49 b.toNat
      have hr : ¬ (32 : Int) < (r.length : Int) + 1 := by simp at h2; omega
      rw [show (decide (1 ≤ (b :: r).length) && decide ((b :: r).length ≤ 32) && nmH (b :: r)) = (okf b && nmT r) by simp [nmH]; simp at h2; intros; omega]
      rw [okf_eq, nmT] at *
      cases e1 : dgB b.toNat
      · rw [e1] at h47
        simp only [Bool.not_false, Bool.and_true]
        generalize (okc b && nmT r) = B at ht ⊢
        simp at ht
        simp [f27, f27body, hr, h47, ht]
      · rw [e1] at h47
        simp [f27, f27body, hr, h47]
    · have hr : (32 : Int) < (r.length : Int) + 1 := by simp at h2; omega
      simp [f27, f27body, hr]
      intro; simp at h2; omega
def dgU : List UInt8 → Nat → Option Nat
  | [], n => some n
  | b :: r, n => if dgB b.toNat = true then dgU r (10 * n + (b.toNat - 48)) else none
theorem dgU_ge : ∀ (l : List UInt8) (n m : Nat), dgU l n = some m → n * 10 ^ l.length ≤ m
  | [], n, m, h => by cases h; simp
  | b :: r, n, m, h => by
    rw [dgU] at h
    split at h
    · have := dgU_ge r _ m h
      rw [List.length_cons, Nat.pow_succ]
      refine Nat.le_trans ?_ this
      rw [Nat.mul_comm (10 ^ r.length) 10, ← Nat.mul_assoc]
      exact Nat.mul_le_mul_right _ (by omega)
    · cases h
theorem dgT_eq : ∀ (l : List UInt8) (n : Nat), n ≤ 2147483647 → dgT l n = match dgU l n with | some m => if m ≤ 2147483647 then some m else none | none => none
  | [], n, h => by simp [dgT, dgU, h]
  | b :: r, n, h => by
    rw [dgT, dgU]
    split
    · split
      · rename_i h2
        cases e : dgU r (10 * n + (b.toNat - 48)) with
        | none => rfl
        | some m =>
          have := dgU_ge r _ m e
          have h1 : 0 < 10 ^ r.length := Nat.pow_pos (by omega)
          have h3 : 10 * n + (b.toNat - 48) ≤ m := Nat.le_trans (Nat.le_mul_of_pos_right _ h1) this
          simp only
          rw [if_neg (by omega)]
      · exact dgT_eq r _ (by omega)
    · rfl
theorem dgU_lt : ∀ (l : List UInt8) (n m : Nat), dgU l n = some m → m < (n + 1) * 10 ^ l.length
  | [], n, m, h => by cases h; simp
  | b :: r, n, m, h => by
    rw [dgU] at h
    split at h
    · rename_i hb
      have hb' : b.toNat ≤ 57 := by simp [dgB] at hb; omega
      have := dgU_lt r _ m h
      rw [List.length_cons, Nat.pow_succ]
      refine Nat.lt_of_lt_of_le this ?_
      rw [Nat.mul_comm (10 ^ r.length) 10, ← Nat.mul_assoc]
      exact Nat.mul_le_mul_right _ (by omega)
    · cases h
theorem t61 (l : List UInt8) (hl : l.length ≤ 10) : ∀ (k i n : Nat), n < 10 ^ i → i + k = l.length → run tbl (.cl [.tmp 2, .tmp 3]) [.blk 0, .seq ((f61r11.seq (.cond (.t 43) (f61r12.seq .ret) .skip)).seq (f61r13.seq .ret))] (.loop [0, 5, 4] f61b10) [(0, .str l), (5, .int .i64 i), (4, .int .i64 n)] [] = dgO (match dgU (l.drop i) n with | some m => if m ≤ 2147483647 then some m else none | none => none)
  | 0, i, n, hn, h => by
    have hp : 10 ^ i ≤ 10 ^ 10 := Nat.pow_le_pow_right (by omega) (by omega)
    rw [run_loopD _ _ f61b10_eq, List.drop_eq_nil_of_le (by omega), dgU]
    by_cases hm : n ≤ 2147483647
    · simp [show ¬ i < l.length by omega, hm, show ¬ (2147483647 : Int) < n by omega]
    · simp [show ¬ i < l.length by omega, hm, show (2147483647 : Int) < n by omega]
  | k + 1, i, n, hn, h => by
    have hi : i < l.length := by omega
    have hp : 10 ^ (i + 1) ≤ 10 ^ 10 := Nat.pow_le_pow_right (by omega) (by omega)
    have hq : 10 ^ (i + 1) = 10 * 10 ^ i := by rw [Nat.pow_succ, Nat.mul_comm]
    have h47 := c49 l[i].toNat
    rw [run_loopD _ _ f61b10_eq, drop_step hi, dgU]
    cases e3 : dgB l[i].toNat
    · rw [e3] at h47
      simp [hi, h47]
    · rw [e3] at h47
      have e4 : 48 ≤ l[i].toNat ∧ l[i].toNat ≤ 57 := by simp [dgB] at e3; omega
      rw [if_pos rfl]
      have w1 : IntKind.u8.wrap ((l[i].toNat : Int) - 48) = ((l[i].toNat - 48 : Nat) : Int) := by rw [wrap8 _ (by omega) (by omega)]; omega
      have w2 := wrap64 ((l[i].toNat - 48 : Nat) : Int) (by omega) (by omega)
      have w3 := wrap64 (10 * (n : Int)) (by omega) (by omega)
      have w4 := wrap64 (10 * (n : Int) + ((l[i].toNat - 48 : Nat) : Int)) (by omega) (by omega)
      have e5 : (10 * (n : Int) + ((l[i].toNat - 48 : Nat) : Int)) = ((10 * n + (l[i].toNat - 48) : Nat) : Int) := by omega
      rw [e5] at w4
      have hm2 : 10 * n + (l[i].toNat - 48) < 10 ^ (i + 1) := by omega
      have ih := t61 l hl k (i + 1) (10 * n + (l[i].toNat - 48)) hm2 (by omega)
      generalize (10 * n + (l[i].toNat - 48)) = m at w4 e5 ih ⊢
      rw [Int.natCast_succ] at ih
      generalize dgU (l.drop (i + 1)) m = X at ih ⊢
      simp [hi, h47, w1, w2, w3, w4, e5, wrapS i (by omega), ih]
theorem dgT_long (b : UInt8) (r : List UInt8) (hb : b ≠ 48) (hl : 10 < (b :: r).length) : dgT (b :: r) 0 = none := by
  rw [dgT_eq _ _ (by omega)]
  cases e : dgU (b :: r) 0 with
  | none => rfl
  | some m =>
    simp only
    rw [if_neg]
    rw [dgU] at e
    split at e
    · rename_i h1
      have h48 : 48 ≤ b.toNat := by simp [dgB] at h1; omega
      have h49 : b.toNat ≠ 48 := fun hh => hb (UInt8.toNat_inj.1 (by simpa using hh))
      have := dgU_ge r _ m e
      have hp : 10 ^ 10 ≤ 10 ^ r.length := Nat.pow_le_pow_right (by omega) (by simp at hl; omega)
      have h2 : 1 * 10 ^ r.length ≤ (10 * 0 + (b.toNat - 48)) * 10 ^ r.length := Nat.mul_le_mul_right _ (by omega)
      omega
    · cases e
theorem c61 (l : List UInt8) : callW tbl 61 [.str l] = dgO (dgV l) := by
  rw [call_run tbl (f := 61) (fn := f61) rfl _ rfl]
  unfold dgV
  cases l with
  | nil => simp [f61, f61body]
  | cons b r =>
    by_cases h0 : b :: r = [48]
    · rw [if_pos h0, h0]
      exact (call_run tbl (f := 61) (fn := f61) rfl _ rfl).symm.trans (callW_of tbl (k := 300) (by kernel_rfl))
    · rw [if_neg h0]
      by_cases hl : (b :: r).length ≤ 10
      · have hr : ¬ (10 : Int) < (r.length : Int) + 1 := by simp at hl; omega
        by_cases hb : b = 48
        · subst hb
          have hr1 : r ≠ [] := fun hh => h0 (by rw [hh])
          have hr2 : 0 < r.length := List.length_pos_iff.2 hr1
          simp [f61, f61body, hr, show (1 : Int) < (r.length : Int) + 1 by omega]
        · have hb' : ¬ (b.toNat : Int) = 48 := fun e => hb (UInt8.toNat_inj.1 (by simpa using (by omega : b.toNat = 48)))
          rw [if_neg (by simp [hb]), dgT_eq _ _ (by omega)]
          have ht := t61 (b :: r) hl (b :: r).length 0 0 (by simp) (by omega)
          rw [List.drop_zero] at ht
          generalize dgU (b :: r) 0 = X at ht ⊢
          simp [f61, f61body, hr, hb']
          exact ht
      · have hr : (10 : Int) < (r.length : Int) + 1 := by simp at hl; omega
        have : (if (b :: r).head? = none ∨ (b :: r).head? = some 48 then none else dgT (b :: r) 0) = none := by
          split
          · rfl
          · rename_i hh
            exact dgT_long b r (fun h48 => hh (.inr (by rw [h48]; rfl))) (by omega)
        rw [this]
        simp [f61, f61body, hr]
theorem dgV_le {l : List UInt8} {k : Nat} (h : dgV l = some k) : k ≤ 2147483647 := by
  unfold dgV at h
  split at h
  · cases h; omega
  · split at h
    · cases h
    · rw [dgT_eq _ _ (by omega)] at h
      split at h
      · split at h
        · cases h; assumption
        · cases h
      · cases h
theorem dgV_zero {l : List UInt8} (h : dgV l = some 0) : l = [48] := by
  unfold dgV at h
  split at h
  · assumption
  · split at h
    · cases h
    · rename_i h0 h1
      rw [dgT_eq _ _ (by omega)] at h
      cases l with
      | nil => simp at h1
      | cons b r =>
        cases e : dgU (b :: r) 0 with
        | none => rw [e] at h; cases h
        | some m =>
          rw [e] at h
          simp only at h
          split at h
          · cases h
            rw [dgU] at e
            split at e
            · rename_i h2
              have h48 : 48 ≤ b.toNat := by simp [dgB] at h2; omega
              have h49 : b.toNat ≠ 48 := fun hh => h1 (.inr (by rw [show b = 48 from UInt8.toNat_inj.1 (by simpa using hh)]; rfl))
              have := dgU_ge r _ 0 e
              have hp : 0 < 10 ^ r.length := Nat.pow_pos (by omega)
              have h2 : 1 * 10 ^ r.length ≤ (10 * 0 + (b.toNat - 48)) * 10 ^ r.length := Nat.mul_le_mul_right _ (by omega)
              omega
            · cases e
          · cases h
theorem dgV_head {b : UInt8} {r : List UInt8} {k : Nat} (h : dgV (b :: r) = some k) (hk : 1 ≤ k) : b ≠ 48 := by
  rintro rfl
  unfold dgV at h
  split at h
  · cases h; omega
  · split at h
    · cases h
    · rename_i h1; simp at h1
def psV (l : List UInt8) : Nat := (dgV l).getD 0
theorem c43 (l : List UInt8) : callW tbl 43 [.str l] = some (.int .i64 (psV l), []) := by
  have h46 := c61 l
  rw [call_run tbl (f := 43) (fn := f43) rfl _ rfl]
  unfold psV
  cases e : dgV l with
  | none =>
    rw [e] at h46
    simp [f43, f43body, h46]
  | some k =>
    rw [e] at h46
    have hk := dgV_le e
    by_cases h1 : 1 ≤ k
    · cases l with
      | nil => simp [dgV] at e
      | cons b r =>
        have hb := dgV_head e h1
        have hb' : ¬ (b.toNat : Int) = 48 := fun e => hb (UInt8.toNat_inj.1 (by simpa using (by omega : b.toNat = 48)))
        simp [f43, f43body, h46, show ¬ (k : Int) < 1 by omega, show ¬ (2147483647 : Int) < k by omega, hb']
    · obtain rfl : k = 0 := by omega
      simp [f43, f43body, h46]
theorem t46_8 (n q0 q1 q2 q3 q4 q5 q6 q7 : Int) (acc : List UInt8) : run tbl (.cl [.tmp 2]) [.blk 0, .seq (f46r10.seq .ret)] (.loop [5, 6, 0, 4, 3] f46b9) [(5, .str acc), (6, .int .i64 8), (0, .int .i64 n), (4, .ref 0 0 0 8), (3, .str [97, 67, 101, 102, 109, 110, 117, 120])] [.row 3 1 0 [.int .i64 q0, .int .i64 q1, .int .i64 q2, .int .i64 q3, .int .i64 q4, .int .i64 q5, .int .i64 q6, .int .i64 q7]] = some (.str (acc ++ []), []) := by
  rw [run_loopD _ _ f46b9_eq]
  simp
theorem s46_7 (n q0 q1 q2 q3 q4 q5 q6 q7 : Int) (acc T : List UInt8) (hm : acc.length + 1 ≤ maxStr) (ih1 : run tbl (.cl [.tmp 2]) [.blk 0, .seq (f46r10.seq .ret)] (.loop [5, 6, 0, 4, 3] f46b9) [(5, .str acc), (6, .int .i64 8), (0, .int .i64 n), (4, .ref 0 0 0 8), (3, .str [97, 67, 101, 102, 109, 110, 117, 120])] [.row 3 1 0 [.int .i64 q0, .int .i64 q1, .int .i64 q2, .int .i64 q3, .int .i64 q4, .int .i64 q5, .int .i64 q6, .int .i64 q7]] = some (.str (acc ++ T), [])) (ih2 : run tbl (.cl [.tmp 2]) [.blk 0, .seq (f46r10.seq .ret)] (.loop [5, 6, 0, 4, 3] f46b9) [(5, .str (acc ++ [120])), (6, .int .i64 8), (0, .int .i64 n), (4, .ref 0 0 0 8), (3, .str [97, 67, 101, 102, 109, 110, 117, 120])] [.row 3 1 0 [.int .i64 q0, .int .i64 q1, .int .i64 q2, .int .i64 q3, .int .i64 q4, .int .i64 q5, .int .i64 q6, .int .i64 q7]] = some (.str ((acc ++ [120]) ++ T), [])) : run tbl (.cl [.tmp 2]) [.blk 0, .seq (f46r10.seq .ret)] (.loop [5, 6, 0, 4, 3] f46b9) [(5, .str acc), (6, .int .i64 7), (0, .int .i64 n), (4, .ref 0 0 0 8), (3, .str [97, 67, 101, 102, 109, 110, 117, 120])] [.row 3 1 0 [.int .i64 q0, .int .i64 q1, .int .i64 q2, .int .i64 q3, .int .i64 q4, .int .i64 q5, .int .i64 q6, .int .i64 q7]] = some (.str (acc ++ (flb n q7 120 ++ T)), []) := by
  rw [run_loopD _ _ f46b9_eq]
  unfold flb
  by_cases hb : abits .and .i64 n q7 = 0
  · rw [if_pos hb]
    simp [eq_true hb, ih1]
  · rw [if_neg hb]
    simp at ih2
    simp [hb, ih2]
    exact hm
theorem t46_7 (n q0 q1 q2 q3 q4 q5 q6 q7 : Int) (acc : List UInt8) (ha : acc.length ≤ 7) : run tbl (.cl [.tmp 2]) [.blk 0, .seq (f46r10.seq .ret)] (.loop [5, 6, 0, 4, 3] f46b9) [(5, .str acc), (6, .int .i64 7), (0, .int .i64 n), (4, .ref 0 0 0 8), (3, .str [97, 67, 101, 102, 109, 110, 117, 120])] [.row 3 1 0 [.int .i64 q0, .int .i64 q1, .int .i64 q2, .int .i64 q3, .int .i64 q4, .int .i64 q5, .int .i64 q6, .int .i64 q7]] = some (.str (acc ++ (flb n q7 120 ++ [])), []) :=
  s46_7 n q0 q1 q2 q3 q4 q5 q6 q7 acc _ (by unfold maxStr; omega) (t46_8 n q0 q1 q2 q3 q4 q5 q6 q7 acc) (t46_8 n q0 q1 q2 q3 q4 q5 q6 q7 _)
theorem s46_6 (n q0 q1 q2 q3 q4 q5 q6 q7 : Int) (acc T : List UInt8) (hm : acc.length + 1 ≤ maxStr) (ih1 : run tbl (.cl [.tmp 2]) [.blk 0, .seq (f46r10.seq .ret)] (.loop [5, 6, 0, 4, 3] f46b9) [(5, .str acc), (6, .int .i64 7), (0, .int .i64 n), (4, .ref 0 0 0 8), (3, .str [97, 67, 101, 102, 109, 110, 117, 120])] [.row 3 1 0 [.int .i64 q0, .int .i64 q1, .int .i64 q2, .int .i64 q3, .int .i64 q4, .int .i64 q5, .int .i64 q6, .int .i64 q7]] = some (.str (acc ++ T), [])) (ih2 : run tbl (.cl [.tmp 2]) [.blk 0, .seq (f46r10.seq .ret)] (.loop [5, 6, 0, 4, 3] f46b9) [(5, .str (acc ++ [117])), (6, .int .i64 7), (0, .int .i64 n), (4, .ref 0 0 0 8), (3, .str [97, 67, 101, 102, 109, 110, 117, 120])] [.row 3 1 0 [.int .i64 q0, .int .i64 q1, .int .i64 q2, .int .i64 q3, .int .i64 q4, .int .i64 q5, .int .i64 q6, .int .i64 q7]] = some (.str ((acc ++ [117]) ++ T), [])) : run tbl (.cl [.tmp 2]) [.blk 0, .seq (f46r10.seq .ret)] (.loop [5, 6, 0, 4, 3] f46b9) [(5, .str acc), (6, .int .i64 6), (0, .int .i64 n), (4, .ref 0 0 0 8), (3, .str [97, 67, 101, 102, 109, 110, 117, 120])] [.row 3 1 0 [.int .i64 q0, .int .i64 q1, .int .i64 q2, .int .i64 q3, .int .i64 q4, .int .i64 q5, .int .i64 q6, .int .i64 q7]] = some (.str (acc ++ (flb n q6 117 ++ T)), []) := by
  rw [run_loopD _ _ f46b9_eq]
  unfold flb
  by_cases hb : abits .and .i64 n q6 = 0
  · rw [if_pos hb]
    simp [eq_true hb, ih1]
  · rw [if_neg hb]
    simp at ih2
    simp [hb, ih2]
    exact hm
theorem t46_6 (n q0 q1 q2 q3 q4 q5 q6 q7 : Int) (acc : List UInt8) (ha : acc.length ≤ 6) : run tbl (.cl [.tmp 2]) [.blk 0, .seq (f46r10.seq .ret)] (.loop [5, 6, 0, 4, 3] f46b9) [(5, .str acc), (6, .int .i64 6), (0, .int .i64 n), (4, .ref 0 0 0 8), (3, .str [97, 67, 101, 102, 109, 110, 117, 120])] [.row 3 1 0 [.int .i64 q0, .int .i64 q1, .int .i64 q2, .int .i64 q3, .int .i64 q4, .int .i64 q5, .int .i64 q6, .int .i64 q7]] = some (.str (acc ++ (flb n q6 117 ++ (flb n q7 120 ++ []))), []) :=
  s46_6 n q0 q1 q2 q3 q4 q5 q6 q7 acc _ (by unfold maxStr; omega) (t46_7 n q0 q1 q2 q3 q4 q5 q6 q7 acc (by omega)) (t46_7 n q0 q1 q2 q3 q4 q5 q6 q7 _ (by rw [List.length_append, List.length_singleton]; omega))
theorem s46_5 (n q0 q1 q2 q3 q4 q5 q6 q7 : Int) (acc T : List UInt8) (hm : acc.length + 1 ≤ maxStr) (ih1 : run tbl (.cl [.tmp 2]) [.blk 0, .seq (f46r10.seq .ret)] (.loop [5, 6, 0, 4, 3] f46b9) [(5, .str acc), (6, .int .i64 6), (0, .int .i64 n), (4, .ref 0 0 0 8), (3, .str [97, 67, 101, 102, 109, 110, 117, 120])] [.row 3 1 0 [.int .i64 q0, .int .i64 q1, .int .i64 q2, .int .i64 q3, .int .i64 q4, .int .i64 q5, .int .i64 q6, .int .i64 q7]] = some (.str (acc ++ T), [])) (ih2 : run tbl (.cl [.tmp 2]) [.blk 0, .seq (f46r10.seq .ret)] (.loop [5, 6, 0, 4, 3] f46b9) [(5, .str (acc ++ [110])), (6, .int .i64 6), (0, .int .i64 n), (4, .ref 0 0 0 8), (3, .str [97, 67, 101, 102, 109, 110, 117, 120])] [.row 3 1 0 [.int .i64 q0, .int .i64 q1, .int .i64 q2, .int .i64 q3, .int .i64 q4, .int .i64 q5, .int .i64 q6, .int .i64 q7]] = some (.str ((acc ++ [110]) ++ T), [])) : run tbl (.cl [.tmp 2]) [.blk 0, .seq (f46r10.seq .ret)] (.loop [5, 6, 0, 4, 3] f46b9) [(5, .str acc), (6, .int .i64 5), (0, .int .i64 n), (4, .ref 0 0 0 8), (3, .str [97, 67, 101, 102, 109, 110, 117, 120])] [.row 3 1 0 [.int .i64 q0, .int .i64 q1, .int .i64 q2, .int .i64 q3, .int .i64 q4, .int .i64 q5, .int .i64 q6, .int .i64 q7]] = some (.str (acc ++ (flb n q5 110 ++ T)), []) := by
  rw [run_loopD _ _ f46b9_eq]
  unfold flb
  by_cases hb : abits .and .i64 n q5 = 0
  · rw [if_pos hb]
    simp [eq_true hb, ih1]
  · rw [if_neg hb]
    simp at ih2
    simp [hb, ih2]
    exact hm
theorem t46_5 (n q0 q1 q2 q3 q4 q5 q6 q7 : Int) (acc : List UInt8) (ha : acc.length ≤ 5) : run tbl (.cl [.tmp 2]) [.blk 0, .seq (f46r10.seq .ret)] (.loop [5, 6, 0, 4, 3] f46b9) [(5, .str acc), (6, .int .i64 5), (0, .int .i64 n), (4, .ref 0 0 0 8), (3, .str [97, 67, 101, 102, 109, 110, 117, 120])] [.row 3 1 0 [.int .i64 q0, .int .i64 q1, .int .i64 q2, .int .i64 q3, .int .i64 q4, .int .i64 q5, .int .i64 q6, .int .i64 q7]] = some (.str (acc ++ (flb n q5 110 ++ (flb n q6 117 ++ (flb n q7 120 ++ [])))), []) :=
  s46_5 n q0 q1 q2 q3 q4 q5 q6 q7 acc _ (by unfold maxStr; omega) (t46_6 n q0 q1 q2 q3 q4 q5 q6 q7 acc (by omega)) (t46_6 n q0 q1 q2 q3 q4 q5 q6 q7 _ (by rw [List.length_append, List.length_singleton]; omega))
theorem s46_4 (n q0 q1 q2 q3 q4 q5 q6 q7 : Int) (acc T : List UInt8) (hm : acc.length + 1 ≤ maxStr) (ih1 : run tbl (.cl [.tmp 2]) [.blk 0, .seq (f46r10.seq .ret)] (.loop [5, 6, 0, 4, 3] f46b9) [(5, .str acc), (6, .int .i64 5), (0, .int .i64 n), (4, .ref 0 0 0 8), (3, .str [97, 67, 101, 102, 109, 110, 117, 120])] [.row 3 1 0 [.int .i64 q0, .int .i64 q1, .int .i64 q2, .int .i64 q3, .int .i64 q4, .int .i64 q5, .int .i64 q6, .int .i64 q7]] = some (.str (acc ++ T), [])) (ih2 : run tbl (.cl [.tmp 2]) [.blk 0, .seq (f46r10.seq .ret)] (.loop [5, 6, 0, 4, 3] f46b9) [(5, .str (acc ++ [109])), (6, .int .i64 5), (0, .int .i64 n), (4, .ref 0 0 0 8), (3, .str [97, 67, 101, 102, 109, 110, 117, 120])] [.row 3 1 0 [.int .i64 q0, .int .i64 q1, .int .i64 q2, .int .i64 q3, .int .i64 q4, .int .i64 q5, .int .i64 q6, .int .i64 q7]] = some (.str ((acc ++ [109]) ++ T), [])) : run tbl (.cl [.tmp 2]) [.blk 0, .seq (f46r10.seq .ret)] (.loop [5, 6, 0, 4, 3] f46b9) [(5, .str acc), (6, .int .i64 4), (0, .int .i64 n), (4, .ref 0 0 0 8), (3, .str [97, 67, 101, 102, 109, 110, 117, 120])] [.row 3 1 0 [.int .i64 q0, .int .i64 q1, .int .i64 q2, .int .i64 q3, .int .i64 q4, .int .i64 q5, .int .i64 q6, .int .i64 q7]] = some (.str (acc ++ (flb n q4 109 ++ T)), []) := by
  rw [run_loopD _ _ f46b9_eq]
  unfold flb
  by_cases hb : abits .and .i64 n q4 = 0
  · rw [if_pos hb]
    simp [eq_true hb, ih1]
  · rw [if_neg hb]
    simp at ih2
    simp [hb, ih2]
    exact hm
theorem t46_4 (n q0 q1 q2 q3 q4 q5 q6 q7 : Int) (acc : List UInt8) (ha : acc.length ≤ 4) : run tbl (.cl [.tmp 2]) [.blk 0, .seq (f46r10.seq .ret)] (.loop [5, 6, 0, 4, 3] f46b9) [(5, .str acc), (6, .int .i64 4), (0, .int .i64 n), (4, .ref 0 0 0 8), (3, .str [97, 67, 101, 102, 109, 110, 117, 120])] [.row 3 1 0 [.int .i64 q0, .int .i64 q1, .int .i64 q2, .int .i64 q3, .int .i64 q4, .int .i64 q5, .int .i64 q6, .int .i64 q7]] = some (.str (acc ++ (flb n q4 109 ++ (flb n q5 110 ++ (flb n q6 117 ++ (flb n q7 120 ++ []))))), []) :=
  s46_4 n q0 q1 q2 q3 q4 q5 q6 q7 acc _ (by unfold maxStr; omega) (t46_5 n q0 q1 q2 q3 q4 q5 q6 q7 acc (by omega)) (t46_5 n q0 q1 q2 q3 q4 q5 q6 q7 _ (by rw [List.length_append, List.length_singleton]; omega))
theorem s46_3 (n q0 q1 q2 q3 q4 q5 q6 q7 : Int) (acc T : List UInt8) (hm : acc.length + 1 ≤ maxStr) (ih1 : run tbl (.cl [.tmp 2]) [.blk 0, .seq (f46r10.seq .ret)] (.loop [5, 6, 0, 4, 3] f46b9) [(5, .str acc), (6, .int .i64 4), (0, .int .i64 n), (4, .ref 0 0 0 8), (3, .str [97, 67, 101, 102, 109, 110, 117, 120])] [.row 3 1 0 [.int .i64 q0, .int .i64 q1, .int .i64 q2, .int .i64 q3, .int .i64 q4, .int .i64 q5, .int .i64 q6, .int .i64 q7]] = some (.str (acc ++ T), [])) (ih2 : run tbl (.cl [.tmp 2]) [.blk 0, .seq (f46r10.seq .ret)] (.loop [5, 6, 0, 4, 3] f46b9) [(5, .str (acc ++ [102])), (6, .int .i64 4), (0, .int .i64 n), (4, .ref 0 0 0 8), (3, .str [97, 67, 101, 102, 109, 110, 117, 120])] [.row 3 1 0 [.int .i64 q0, .int .i64 q1, .int .i64 q2, .int .i64 q3, .int .i64 q4, .int .i64 q5, .int .i64 q6, .int .i64 q7]] = some (.str ((acc ++ [102]) ++ T), [])) : run tbl (.cl [.tmp 2]) [.blk 0, .seq (f46r10.seq .ret)] (.loop [5, 6, 0, 4, 3] f46b9) [(5, .str acc), (6, .int .i64 3), (0, .int .i64 n), (4, .ref 0 0 0 8), (3, .str [97, 67, 101, 102, 109, 110, 117, 120])] [.row 3 1 0 [.int .i64 q0, .int .i64 q1, .int .i64 q2, .int .i64 q3, .int .i64 q4, .int .i64 q5, .int .i64 q6, .int .i64 q7]] = some (.str (acc ++ (flb n q3 102 ++ T)), []) := by
  rw [run_loopD _ _ f46b9_eq]
  unfold flb
  by_cases hb : abits .and .i64 n q3 = 0
  · rw [if_pos hb]
    simp [eq_true hb, ih1]
  · rw [if_neg hb]
    simp at ih2
    simp [hb, ih2]
    exact hm
theorem t46_3 (n q0 q1 q2 q3 q4 q5 q6 q7 : Int) (acc : List UInt8) (ha : acc.length ≤ 3) : run tbl (.cl [.tmp 2]) [.blk 0, .seq (f46r10.seq .ret)] (.loop [5, 6, 0, 4, 3] f46b9) [(5, .str acc), (6, .int .i64 3), (0, .int .i64 n), (4, .ref 0 0 0 8), (3, .str [97, 67, 101, 102, 109, 110, 117, 120])] [.row 3 1 0 [.int .i64 q0, .int .i64 q1, .int .i64 q2, .int .i64 q3, .int .i64 q4, .int .i64 q5, .int .i64 q6, .int .i64 q7]] = some (.str (acc ++ (flb n q3 102 ++ (flb n q4 109 ++ (flb n q5 110 ++ (flb n q6 117 ++ (flb n q7 120 ++ [])))))), []) :=
  s46_3 n q0 q1 q2 q3 q4 q5 q6 q7 acc _ (by unfold maxStr; omega) (t46_4 n q0 q1 q2 q3 q4 q5 q6 q7 acc (by omega)) (t46_4 n q0 q1 q2 q3 q4 q5 q6 q7 _ (by rw [List.length_append, List.length_singleton]; omega))
theorem s46_2 (n q0 q1 q2 q3 q4 q5 q6 q7 : Int) (acc T : List UInt8) (hm : acc.length + 1 ≤ maxStr) (ih1 : run tbl (.cl [.tmp 2]) [.blk 0, .seq (f46r10.seq .ret)] (.loop [5, 6, 0, 4, 3] f46b9) [(5, .str acc), (6, .int .i64 3), (0, .int .i64 n), (4, .ref 0 0 0 8), (3, .str [97, 67, 101, 102, 109, 110, 117, 120])] [.row 3 1 0 [.int .i64 q0, .int .i64 q1, .int .i64 q2, .int .i64 q3, .int .i64 q4, .int .i64 q5, .int .i64 q6, .int .i64 q7]] = some (.str (acc ++ T), [])) (ih2 : run tbl (.cl [.tmp 2]) [.blk 0, .seq (f46r10.seq .ret)] (.loop [5, 6, 0, 4, 3] f46b9) [(5, .str (acc ++ [101])), (6, .int .i64 3), (0, .int .i64 n), (4, .ref 0 0 0 8), (3, .str [97, 67, 101, 102, 109, 110, 117, 120])] [.row 3 1 0 [.int .i64 q0, .int .i64 q1, .int .i64 q2, .int .i64 q3, .int .i64 q4, .int .i64 q5, .int .i64 q6, .int .i64 q7]] = some (.str ((acc ++ [101]) ++ T), [])) : run tbl (.cl [.tmp 2]) [.blk 0, .seq (f46r10.seq .ret)] (.loop [5, 6, 0, 4, 3] f46b9) [(5, .str acc), (6, .int .i64 2), (0, .int .i64 n), (4, .ref 0 0 0 8), (3, .str [97, 67, 101, 102, 109, 110, 117, 120])] [.row 3 1 0 [.int .i64 q0, .int .i64 q1, .int .i64 q2, .int .i64 q3, .int .i64 q4, .int .i64 q5, .int .i64 q6, .int .i64 q7]] = some (.str (acc ++ (flb n q2 101 ++ T)), []) := by
  rw [run_loopD _ _ f46b9_eq]
  unfold flb
  by_cases hb : abits .and .i64 n q2 = 0
  · rw [if_pos hb]
    simp [eq_true hb, ih1]
  · rw [if_neg hb]
    simp at ih2
    simp [hb, ih2]
    exact hm
theorem t46_2 (n q0 q1 q2 q3 q4 q5 q6 q7 : Int) (acc : List UInt8) (ha : acc.length ≤ 2) : run tbl (.cl [.tmp 2]) [.blk 0, .seq (f46r10.seq .ret)] (.loop [5, 6, 0, 4, 3] f46b9) [(5, .str acc), (6, .int .i64 2), (0, .int .i64 n), (4, .ref 0 0 0 8), (3, .str [97, 67, 101, 102, 109, 110, 117, 120])] [.row 3 1 0 [.int .i64 q0, .int .i64 q1, .int .i64 q2, .int .i64 q3, .int .i64 q4, .int .i64 q5, .int .i64 q6, .int .i64 q7]] = some (.str (acc ++ (flb n q2 101 ++ (flb n q3 102 ++ (flb n q4 109 ++ (flb n q5 110 ++ (flb n q6 117 ++ (flb n q7 120 ++ []))))))), []) :=
  s46_2 n q0 q1 q2 q3 q4 q5 q6 q7 acc _ (by unfold maxStr; omega) (t46_3 n q0 q1 q2 q3 q4 q5 q6 q7 acc (by omega)) (t46_3 n q0 q1 q2 q3 q4 q5 q6 q7 _ (by rw [List.length_append, List.length_singleton]; omega))
theorem s46_1 (n q0 q1 q2 q3 q4 q5 q6 q7 : Int) (acc T : List UInt8) (hm : acc.length + 1 ≤ maxStr) (ih1 : run tbl (.cl [.tmp 2]) [.blk 0, .seq (f46r10.seq .ret)] (.loop [5, 6, 0, 4, 3] f46b9) [(5, .str acc), (6, .int .i64 2), (0, .int .i64 n), (4, .ref 0 0 0 8), (3, .str [97, 67, 101, 102, 109, 110, 117, 120])] [.row 3 1 0 [.int .i64 q0, .int .i64 q1, .int .i64 q2, .int .i64 q3, .int .i64 q4, .int .i64 q5, .int .i64 q6, .int .i64 q7]] = some (.str (acc ++ T), [])) (ih2 : run tbl (.cl [.tmp 2]) [.blk 0, .seq (f46r10.seq .ret)] (.loop [5, 6, 0, 4, 3] f46b9) [(5, .str (acc ++ [67])), (6, .int .i64 2), (0, .int .i64 n), (4, .ref 0 0 0 8), (3, .str [97, 67, 101, 102, 109, 110, 117, 120])] [.row 3 1 0 [.int .i64 q0, .int .i64 q1, .int .i64 q2, .int .i64 q3, .int .i64 q4, .int .i64 q5, .int .i64 q6, .int .i64 q7]] = some (.str ((acc ++ [67]) ++ T), [])) : run tbl (.cl [.tmp 2]) [.blk 0, .seq (f46r10.seq .ret)] (.loop [5, 6, 0, 4, 3] f46b9) [(5, .str acc), (6, .int .i64 1), (0, .int .i64 n), (4, .ref 0 0 0 8), (3, .str [97, 67, 101, 102, 109, 110, 117, 120])] [.row 3 1 0 [.int .i64 q0, .int .i64 q1, .int .i64 q2, .int .i64 q3, .int .i64 q4, .int .i64 q5, .int .i64 q6, .int .i64 q7]] = some (.str (acc ++ (flb n q1 67 ++ T)), []) := by
  rw [run_loopD _ _ f46b9_eq]
  unfold flb
  by_cases hb : abits .and .i64 n q1 = 0
  · rw [if_pos hb]
    simp [eq_true hb, ih1]
  · rw [if_neg hb]
    simp at ih2
    simp [hb, ih2]
    exact hm
theorem t46_1 (n q0 q1 q2 q3 q4 q5 q6 q7 : Int) (acc : List UInt8) (ha : acc.length ≤ 1) : run tbl (.cl [.tmp 2]) [.blk 0, .seq (f46r10.seq .ret)] (.loop [5, 6, 0, 4, 3] f46b9) [(5, .str acc), (6, .int .i64 1), (0, .int .i64 n), (4, .ref 0 0 0 8), (3, .str [97, 67, 101, 102, 109, 110, 117, 120])] [.row 3 1 0 [.int .i64 q0, .int .i64 q1, .int .i64 q2, .int .i64 q3, .int .i64 q4, .int .i64 q5, .int .i64 q6, .int .i64 q7]] = some (.str (acc ++ (flb n q1 67 ++ (flb n q2 101 ++ (flb n q3 102 ++ (flb n q4 109 ++ (flb n q5 110 ++ (flb n q6 117 ++ (flb n q7 120 ++ [])))))))), []) :=
  s46_1 n q0 q1 q2 q3 q4 q5 q6 q7 acc _ (by unfold maxStr; omega) (t46_2 n q0 q1 q2 q3 q4 q5 q6 q7 acc (by omega)) (t46_2 n q0 q1 q2 q3 q4 q5 q6 q7 _ (by rw [List.length_append, List.length_singleton]; omega))
theorem s46_0 (n q0 q1 q2 q3 q4 q5 q6 q7 : Int) (acc T : List UInt8) (hm : acc.length + 1 ≤ maxStr) (ih1 : run tbl (.cl [.tmp 2]) [.blk 0, .seq (f46r10.seq .ret)] (.loop [5, 6, 0, 4, 3] f46b9) [(5, .str acc), (6, .int .i64 1), (0, .int .i64 n), (4, .ref 0 0 0 8), (3, .str [97, 67, 101, 102, 109, 110, 117, 120])] [.row 3 1 0 [.int .i64 q0, .int .i64 q1, .int .i64 q2, .int .i64 q3, .int .i64 q4, .int .i64 q5, .int .i64 q6, .int .i64 q7]] = some (.str (acc ++ T), [])) (ih2 : run tbl (.cl [.tmp 2]) [.blk 0, .seq (f46r10.seq .ret)] (.loop [5, 6, 0, 4, 3] f46b9) [(5, .str (acc ++ [97])), (6, .int .i64 1), (0, .int .i64 n), (4, .ref 0 0 0 8), (3, .str [97, 67, 101, 102, 109, 110, 117, 120])] [.row 3 1 0 [.int .i64 q0, .int .i64 q1, .int .i64 q2, .int .i64 q3, .int .i64 q4, .int .i64 q5, .int .i64 q6, .int .i64 q7]] = some (.str ((acc ++ [97]) ++ T), [])) : run tbl (.cl [.tmp 2]) [.blk 0, .seq (f46r10.seq .ret)] (.loop [5, 6, 0, 4, 3] f46b9) [(5, .str acc), (6, .int .i64 0), (0, .int .i64 n), (4, .ref 0 0 0 8), (3, .str [97, 67, 101, 102, 109, 110, 117, 120])] [.row 3 1 0 [.int .i64 q0, .int .i64 q1, .int .i64 q2, .int .i64 q3, .int .i64 q4, .int .i64 q5, .int .i64 q6, .int .i64 q7]] = some (.str (acc ++ (flb n q0 97 ++ T)), []) := by
  rw [run_loopD _ _ f46b9_eq]
  unfold flb
  by_cases hb : abits .and .i64 n q0 = 0
  · rw [if_pos hb]
    simp [eq_true hb, ih1]
  · rw [if_neg hb]
    simp at ih2
    simp [hb, ih2]
    exact hm
theorem t46_0 (n q0 q1 q2 q3 q4 q5 q6 q7 : Int) (acc : List UInt8) (ha : acc.length ≤ 0) : run tbl (.cl [.tmp 2]) [.blk 0, .seq (f46r10.seq .ret)] (.loop [5, 6, 0, 4, 3] f46b9) [(5, .str acc), (6, .int .i64 0), (0, .int .i64 n), (4, .ref 0 0 0 8), (3, .str [97, 67, 101, 102, 109, 110, 117, 120])] [.row 3 1 0 [.int .i64 q0, .int .i64 q1, .int .i64 q2, .int .i64 q3, .int .i64 q4, .int .i64 q5, .int .i64 q6, .int .i64 q7]] = some (.str (acc ++ (flb n q0 97 ++ (flb n q1 67 ++ (flb n q2 101 ++ (flb n q3 102 ++ (flb n q4 109 ++ (flb n q5 110 ++ (flb n q6 117 ++ (flb n q7 120 ++ []))))))))), []) :=
  s46_0 n q0 q1 q2 q3 q4 q5 q6 q7 acc _ (by unfold maxStr; omega) (t46_1 n q0 q1 q2 q3 q4 q5 q6 q7 acc (by omega)) (t46_1 n q0 q1 q2 q3 q4 q5 q6 q7 _ (by rw [List.length_append, List.length_singleton]; omega))
theorem c46 (n : Int) : callW tbl 46 [.int .i64 n] = some (.str (flT n), []) := by
  rw [call_run tbl (f := 46) (fn := f46) rfl _ rfl]
  have h := t46_0 n 32 128 1 8 64 16 2 4 [] (by simp)
  rw [List.nil_append] at h
  unfold flT
  generalize (flb n 32 97 ++ (flb n 128 67 ++ (flb n 1 101 ++ (flb n 8 102 ++ (flb n 64 109 ++ (flb n 16 110 ++ (flb n 2 117 ++ (flb n 4 120 ++ [])))))))) = X at h ⊢
  simp [f46, f46body, h]
abbrev spL : List UInt8 := [64, 42, 35, 63, 45, 36, 33, 48]
theorem indexByte_mem : ∀ (l : List UInt8) (c : UInt8), decide (0 ≤ Lib.indexByte l c) = decide (c ∈ l)
  | [], c => by simp [Lib.indexByte]
  | b :: r, c => by
    have ih := indexByte_mem r c
    have hg := Lib.indexByte_ge r c
    unfold Lib.indexByte
    by_cases h : b = c
    · simp [h]
    · rw [if_neg (by simpa using h)]
      rw [show decide (c ∈ b :: r) = decide (c ∈ r) by simp [Ne.symm h], ← ih]
      split
      · rename_i h1
        have h1' : Lib.indexByte r c = -1 := by simpa using h1
        rw [h1']
      · rename_i h1
        have h1' : Lib.indexByte r c ≠ -1 := by simpa using h1
        have : 0 ≤ Lib.indexByte r c := by omega
        simp [this]; omega
theorem sp_iff {l : List UInt8} : spB l = true ↔ ∃ c ∈ spL, l = [c] := by
  constructor
  · intro h
    match l, h with
    | [c], h =>
      rw [show spB [c] = decide (0 ≤ Lib.indexByte spL c) from rfl, indexByte_mem] at h
      exact ⟨c, by simpa using h, rfl⟩
  · rintro ⟨c, hc, rfl⟩
    rw [show spB [c] = decide (0 ≤ Lib.indexByte spL c) from rfl, indexByte_mem]
    simpa using hc
end Go.Proofs.YteinopeeicjnjaaDoor
