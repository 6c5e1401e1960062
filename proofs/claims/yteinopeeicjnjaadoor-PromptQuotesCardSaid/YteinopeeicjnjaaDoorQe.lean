/- Parameters: the reference, second part. No condition. -/
import Derived.Test.YteinopeeicjnjaaDoorQd
namespace Go.Proofs.YteinopeeicjnjaaDoor
open Go.PI
set_option maxRecDepth 100000
set_option maxHeartbeats 8000000
set_option linter.unusedSimpArgs false
theorem t44 {l : List Vr} (hl : l.length ≤ 1000000) (n : List UInt8) : ∀ (k i : Nat), i + k = l.length → run tbl (.cl [.cell 4 true 5, .tmp 5]) [.blk 0, .seq (f44r7.seq .ret)] (.loop [1, 0, 6, 4] f44b6) [(1, .str n), (0, pV l), (6, .int .i64 i), (4, .bptr 0 0)] [.box 42 5 (encV dV)] = some (.tup [encV (((l.drop i).find? (nmX n)).getD dV), .bool ((l.drop i).find? (nmX n)).isSome], [])
  | 0, i, h => by
    rw [run_loopD _ _ f44b6_eq, List.drop_eq_nil_of_le (by omega)]
    simp [show ¬ i < l.length by omega]
  | k + 1, i, h => by
    have hi : i < l.length := by omega
    have ih := t44 hl n k (i + 1) (by omega)
    rw [Int.natCast_succ] at ih
    rw [run_loopD _ _ f44b6_eq, drop_step hi, List.find?_cons]
    by_cases e : l[i].nm = n
    · rw [show nmX n l[i] = true by simp [nmX, e]]
      simp [hi, eq_true e]
    · rw [show nmX n l[i] = false by simp [nmX, e]]
      generalize (l.drop (i + 1)).find? (nmX n) = X at ih ⊢
      simp [hi, e, wrapS i (by omega), ih]
theorem c44 {l : List Vr} (hl : l.length ≤ 1000000) (n : List UInt8) : callW tbl 44 [pV l, .str n] = some (.tup [encV ((gtV l n).getD dV), .bool (gtV l n).isSome], []) := by
  have h := t44 hl n l.length 0 (by omega)
  rw [List.drop_zero] at h
  rw [call_run tbl (f := 44) (fn := f44) rfl _ rfl]
  unfold gtV
  generalize l.find? (nmX n) = X at h ⊢
  simp at h
  simp [f44, f44body, h]
theorem c48 {l : List Vr} (hl : l.length ≤ 1000000) : callW tbl 48 [pV l] = some (.str (sepV l), []) := by
  have h := c44 hl [73, 70, 83]
  rw [call_run tbl (f := 48) (fn := f48) rfl _ rfl]
  unfold sepV vrO
  cases hg : gtV l [73, 70, 83] with
  | none =>
    rw [hg] at h
    simp at h
    simp [f48, f48body, h]
  | some v =>
    rw [hg] at h
    simp at h
    cases hs : v.st
    · simp [f48, f48body, h, hs]
    · cases hv : v.vl with
      | nil => simp [f48, f48body, h, hs, hv]
      | cons a r => simp [f48, f48body, h, hs, hv]
theorem joinTail_step {l : List (List UInt8)} {i : Nat} (h : i < l.length) (s : List UInt8) : Lib.joinTail s (l.drop i) = s ++ l[i] ++ Lib.joinTail s (l.drop (i + 1)) := by
  rw [drop_step h]; simp only [Lib.joinTail, List.map_cons, List.flatten_cons, List.append_assoc]
theorem t47 (l : List (List UInt8)) (s : List UInt8) (hl : l.length ≤ 1000000) : ∀ (k i : Nat) (acc : List UInt8), 0 < i → (acc ++ Lib.joinTail s (l.drop i)).length ≤ 1000000000 → i + k = l.length → run tbl (.cl [.tmp 4]) [.blk 0, .seq (f47r9.seq .ret)] (.loop [5, 6, 1, 0] f47b8) [(5, .str acc), (6, .int .i64 i), (1, .str s), (0, .sl 1 (l.map .str))] [] = some (.str (acc ++ Lib.joinTail s (l.drop i)), [])
  | 0, i, acc, h0, hb, h => by
    rw [run_loopD _ _ f47b8_eq, List.drop_eq_nil_of_le (by omega)]
    simp [show ¬ i < l.length by omega, Lib.joinTail]
  | k + 1, i, acc, h0, hb, h => by
    have hi : i < l.length := by omega
    rw [joinTail_step hi] at hb ⊢
    have hb2 : (acc ++ s ++ l[i] ++ Lib.joinTail s (l.drop (i + 1))).length ≤ 1000000000 := by simpa [List.append_assoc] using hb
    have ih := t47 l s hl k (i + 1) (acc ++ s ++ l[i]) (by omega) hb2 (by omega)
    rw [Int.natCast_succ] at ih
    have m1 : acc.length + s.length ≤ maxStr := by
      simp only [List.length_append] at hb
      unfold maxStr; omega
    have m2 : acc.length + s.length + l[i].length ≤ maxStr := by
      simp only [List.length_append] at hb
      unfold maxStr; omega
    rw [run_loopD _ _ f47b8_eq]
    generalize Lib.joinTail s (l.drop (i + 1)) = T at ih ⊢
    simp at ih
    simp [hi, h0, show (0 : Int) < i by omega, m1, m2, ← Nat.add_assoc, wrapS i (by omega), ih]
theorem c47 (l : List (List UInt8)) (s : List UInt8) (hl : l.length ≤ 1000000) (hb : (Lib.join l s).length ≤ 1000000000) : callW tbl 47 [.sl 1 (l.map .str), .str s] = some (.str (Lib.join l s), []) := by
  rw [call_run tbl (f := 47) (fn := f47) rfl _ rfl]
  cases l with
  | nil =>
    simp [f47, f47body]
    rw [run_loopD _ _ f47b8_eq]
    simp [Lib.join_nil]
  | cons x r =>
    rw [Lib.join_cons] at hb ⊢
    have ht := t47 (x :: r) s hl r.length 1 x (by omega) (by simpa using hb) (by simp; omega)
    rw [List.drop_succ_cons, List.drop_zero] at ht
    have m2 : x.length ≤ maxStr := by
      simp only [List.length_append] at hb
      unfold maxStr; omega
    generalize Lib.joinTail s r = T at ht ⊢
    simp [f47, f47body]
    rw [run_loopD _ _ f47b8_eq]
    simp at ht
    simp [m2, ht, show (0 : Int) < (r.length : Int) + 1 by omega]
theorem wrapU (n : Int) (h1 : 0 ≤ n) (h2 : n ≤ 18446744073709551615) : IntKind.u64.wrap n = n := by
  unfold IntKind.wrap
  simp [IntKind.bits, IntKind.signed]
  omega
theorem t62 : ∀ (k n : Nat) (acc : List UInt8) (Z : List AO), n < 10 ^ (k + 1) → n ≤ 18446744073709551615 → acc.length + k ≤ 1000 → run tbl (.cl [.tmp 2]) [.blk 0, .seq (f62r6.seq .ret)] (.loop [3, 0] f62b5) [(3, .str acc), (0, .int .u64 n)] Z = some (.str (Lib.decDigits n ++ acc), [])
  | 0, n, acc, Z, h, hu, ha => by
    have hn : n < 10 := by simpa using h
    have w1 := wrapU (48 + (n : Int)) (by omega) (by omega)
    have w2 := wrap8 (48 + (n : Int)) (by omega) (by omega)
    have w3 : (48 + (n : Int)).toNat = 48 + n := by omega
    have m : acc.length + 1 ≤ maxStr := by unfold maxStr; omega
    rw [run_loopD _ _ f62b5_eq, Lib.decDigits, dif_pos hn]
    simp [show ¬ (9 : Int) < n by omega, w1, w2, w3, Nat.add_comm 1, m]
  | k + 1, n, acc, Z, h, hu, ha => by
    have m : acc.length + 1 ≤ maxStr := by unfold maxStr; omega
    by_cases hn : n < 10
    · have w1 := wrapU (48 + (n : Int)) (by omega) (by omega)
      have w2 := wrap8 (48 + (n : Int)) (by omega) (by omega)
      have w3 : (48 + (n : Int)).toNat = 48 + n := by omega
      rw [run_loopD _ _ f62b5_eq, Lib.decDigits, dif_pos hn]
      simp [show ¬ (9 : Int) < n by omega, w1, w2, w3, Nat.add_comm 1, m]
    · have hd : n / 10 < 10 ^ (k + 1) := by
        rw [Nat.div_lt_iff_lt_mul (by omega)]
        rw [Nat.pow_succ] at h
        exact h
      have ih := fun Z => t62 k (n / 10) (UInt8.ofNat (48 + n % 10) :: acc) Z hd (by omega) (by simp; omega)
      have w1 := wrapU (48 + ((n % 10 : Nat) : Int)) (by omega) (by omega)
      have w2 := wrap8 (48 + ((n % 10 : Nat) : Int)) (by omega) (by omega)
      have w3 : (48 + ((n % 10 : Nat) : Int)).toNat = 48 + n % 10 := by omega
      have w4 := wrapU ((n / 10 : Nat) : Int) (by omega) (by omega)
      have w5 : (n : Int).tmod 10 = (n : Int) % 10 := Int.tmod_eq_emod_of_nonneg (by omega)
      rw [run_loopD _ _ f62b5_eq, Lib.decDigits, dif_neg hn]
      generalize Lib.decDigits (n / 10) = D at ih ⊢
      simp at ih w1 w2 w3 w4
      simp [show (9 : Int) < n by omega, w1, w2, w3, w4, w5, Nat.add_comm 1, m, ih]
theorem dec_len : ∀ (k n : Nat), n < 10 ^ (k + 1) → (Lib.decDigits n).length ≤ k + 1
  | 0, n, h => by
    rw [Lib.decDigits, dif_pos (by simpa using h)]; simp
  | k + 1, n, h => by
    rw [Lib.decDigits]
    split
    · simp
    · have hd : n / 10 < 10 ^ (k + 1) := by
        rw [Nat.div_lt_iff_lt_mul (by omega)]
        rw [Nat.pow_succ] at h
        exact h
      have := dec_len k (n / 10) hd
      simp; omega
theorem c62 (n : Nat) (h : n ≤ 18446744073709551615) : callW tbl 62 [.int .u64 n] = some (.str (Lib.decDigits n), []) := by
  have ht := t62 19 n [] [] (by omega) h (by simp)
  rw [List.append_nil] at ht
  rw [call_run tbl (f := 62) (fn := f62) rfl _ rfl]
  generalize Lib.decDigits n = D at ht ⊢
  simp [f62, f62body, ht]
theorem c45 (n : Int) (h : I64 n) : callW tbl 45 [.int .i64 n] = some (.str (Lib.itoa n), []) := by
  obtain ⟨ha, hb⟩ := h
  rw [call_run tbl (f := 45) (fn := f45) rfl _ rfl]
  unfold Lib.itoa
  by_cases h1 : n < 0
  · obtain ⟨m, rfl⟩ : ∃ m : Nat, n = -((m : Int) + 1) := ⟨(-n - 1).toNat, by omega⟩
    have hk := c62 (m + 1) (by omega)
    have hl := dec_len 19 (m + 1) (by omega)
    rw [if_pos h1, show (-((m : Int) + 1)).natAbs = m + 1 by omega]
    have mm : (Lib.decDigits (m + 1)).length + 1 ≤ maxStr := by unfold maxStr; omega
    generalize Lib.decDigits (m + 1) = D at hk hl mm ⊢
    rw [Int.natCast_succ] at hk
    have w1 := wrap64 (-((m : Int) + 1) + 1) (by omega) (by omega)
    have w2 := wrap64 (m : Int) (by omega) (by omega)
    have w3 := wrapU (m : Int) (by omega) (by omega)
    have w4 := wrapU ((m : Int) + 1) (by omega) (by omega)
    have e1 : (-((m : Int) + 1) + 1) = -(m : Int) := by omega
    rw [e1] at w1
    simp [f45, f45body, h1, e1, w1, w2, w3, w4, hk, mm, Nat.add_comm 1]
  · obtain ⟨m, rfl⟩ : ∃ m : Nat, n = m := ⟨n.toNat, by omega⟩
    have hk := c62 m (by omega)
    have w3 := wrapU (m : Int) (by omega) (by omega)
    rw [if_neg h1, show ((m : Int)).toNat = m by omega]
    generalize Lib.decDigits m = D at hk ⊢
    simp [f45, f45body, h1, w3, hk]
end Go.Proofs.YteinopeeicjnjaaDoor
