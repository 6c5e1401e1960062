/- Prompts: the law PromptParts. No condition. -/
import Derived.Test.YteinopeeicjnjaaDoorRi
namespace Go.Proofs.YteinopeeicjnjaaDoor
open Go.PI
set_option maxRecDepth 100000
set_option maxHeartbeats 8000000
set_option linter.unusedSimpArgs false
theorem tw_app (f : UInt8 → Bool) (hf : f 32 = false) (b : List UInt8) : ∀ a : List UInt8, (a ++ 32 :: b).takeWhile f = a.takeWhile f
  | [] => by simp [hf]
  | c :: a => by
    rw [List.cons_append, List.takeWhile_cons, List.takeWhile_cons, tw_app f hf b a]
theorem wE_app (a b : List UInt8) (i : Nat) (h : i ≤ a.length) : wE (a ++ 32 :: b) i = wE a i := by
  unfold wE
  rw [List.drop_append_of_le_length h, tw_app okc rfl]
theorem getD_app (a b : List UInt8) (i : Nat) (h : i < a.length) : (a ++ 32 :: b).getD i 0 = a.getD i 0 := by
  simp [List.getD_eq_getElem?_getD, List.getElem?_append_left h]
theorem getD_mid (a b : List UInt8) : (a ++ 32 :: b).getD a.length 0 = 32 := by simp
theorem brc_app (a b : List UInt8) (h : 2 ≤ a.length) : brc (a ++ 32 :: b) = brc (a ++ [32]) ∧ (brc (a ++ [32]) ≠ 0 → brc (a ++ [32]) + 1 ≤ a.length) := by
  have key : ∀ b : List UInt8, brc (a ++ 32 :: b) = (if (if wE a 2 = 2 ∧ 2 < a.length ∧ spc (a.getD 2 0) = true then 3 else wE a 2) = 2 ∨ a.length ≤ (if wE a 2 = 2 ∧ 2 < a.length ∧ spc (a.getD 2 0) = true then 3 else wE a 2) ∨ a.getD (if wE a 2 = 2 ∧ 2 < a.length ∧ spc (a.getD 2 0) = true then 3 else wE a 2) 0 ≠ 125 then 0 else (if wE a 2 = 2 ∧ 2 < a.length ∧ spc (a.getD 2 0) = true then 3 else wE a 2)) := by
    intro b
    unfold brc
    rw [wE_app a b 2 h]
    have hle := wE_le (l := a) (i := 2) h
    have hc : (wE a 2 = 2 ∧ 2 < (a ++ 32 :: b).length ∧ spc ((a ++ 32 :: b).getD 2 0) = true) ↔ (wE a 2 = 2 ∧ 2 < a.length ∧ spc (a.getD 2 0) = true) := by
      by_cases h2 : 2 < a.length
      · rw [getD_app a b 2 h2]
        simp [h2]; omega
      · have e2 : a.length = 2 := by omega
        have := getD_mid a b
        rw [e2] at this
        rw [this]
        simp [h2, show spc 32 = false from rfl]
    simp only [hc]
    generalize ht : (if wE a 2 = 2 ∧ 2 < a.length ∧ spc (a.getD 2 0) = true then 3 else wE a 2) = t
    have hta : t ≤ a.length := by rw [← ht]; split <;> omega
    by_cases c1 : t = 2
    · simp [c1]
    · by_cases c2 : a.length ≤ t
      · have e2 : t = a.length := by omega
        have := getD_mid a b
        rw [← e2] at this
        rw [this]
        simp [c2]
      · rw [getD_app a b t (by omega)]
        have c3 : ¬ (a ++ 32 :: b).length ≤ t := by simp; omega
        simp only [c1, c2, c3, false_or]
  rw [key b, key []]
  refine ⟨rfl, ?_⟩
  generalize (if wE a 2 = 2 ∧ 2 < a.length ∧ spc (a.getD 2 0) = true then 3 else wE a 2) = t
  intro h0
  by_cases c : t = 2 ∨ a.length ≤ t ∨ a.getD t 0 ≠ 125
  · rw [if_pos c] at h0; exact absurd rfl h0
  · rw [if_neg c]; omega
theorem take_app (a b : List UInt8) (d k : Nat) (h : d + k ≤ a.length) : ((a ++ 32 :: b).drop d).take k = (a.drop d).take k := by
  rw [List.drop_append_of_le_length (by omega), List.take_append_of_le_length (by simp; omega)]
theorem prm_app (a b : List UInt8) (h : 1 ≤ a.length) : prm (a ++ 32 :: b) = prm (a ++ [32]) ∧ ∀ n k, prm (a ++ [32]) = some (n, k) → k ≤ a.length := by
  have key : ∀ b : List UInt8, prm (a ++ 32 :: b) = if a.length = 1 then none else if a.getD 1 0 = 123 then (if brc (a ++ [32]) = 0 then none else some ((a.drop 2).take (brc (a ++ [32]) - 2), brc (a ++ [32]) + 1))
      else if (spc (a.getD 1 0) || dgB (a.getD 1 0).toNat) = true then some ((a.drop 1).take 1, 2) else if okc (a.getD 1 0) = true then some ((a.drop 1).take (wE a 1 - 1), wE a 1) else none := by
    intro b
    unfold prm
    rw [if_neg (by simp; omega)]
    by_cases h1 : a.length = 1
    · have := getD_mid a b
      rw [h1] at this
      rw [this, if_pos h1]
      rfl
    · have h2 : 2 ≤ a.length := by omega
      rw [if_neg h1, getD_app a b 1 (by omega), (brc_app a b h2).1, wE_app a b 1 h]
      have hw := wE_le (l := a) (i := 1) h
      have hg := wE_ge a 1
      have hb := (brc_app a b h2).2
      rw [take_app a b 1 1 (by omega), take_app a b 1 (wE a 1 - 1) (by omega)]
      by_cases hz : brc (a ++ [32]) = 0
      · simp only [hz, if_true]
      · have := hb hz
        rw [take_app a b 2 (brc (a ++ [32]) - 2) (by omega)]
  rw [key b, key []]
  refine ⟨rfl, fun n k hk => ?_⟩
  split at hk
  · cases hk
  · rename_i h1
    split at hk
    · split at hk
      · cases hk
      · rename_i hz
        have := (brc_app a [] (by omega)).2 hz
        simp only [Option.some.injEq, Prod.mk.injEq] at hk
        omega
    · split at hk
      · simp only [Option.some.injEq, Prod.mk.injEq] at hk
        omega
      · split at hk
        · have hw := wE_le (l := a) (i := 1) h
          simp only [Option.some.injEq, Prod.mk.injEq] at hk
          omega
        · cases hk
theorem seq1_app (e : En) (j n : Int) (a b : List UInt8) (h : 1 ≤ a.length) : seq1 e j n (a ++ 32 :: b) = seq1 e j n (a ++ [32]) ∧ (seq1 e j n (a ++ [32])).2 ≤ a.length := by
  cases a with
  | nil => simp at h
  | cons c r =>
    unfold seq1
    simp only [List.cons_append, List.head?_cons]
    by_cases c1 : c = 36
    · subst c1
      simp only [if_true]
      obtain ⟨p1, p2⟩ := prm_app (36 :: r) b (by simp)
      simp only [List.cons_append] at p1 p2
      unfold prT
      rw [p1]
      refine ⟨rfl, ?_⟩
      cases hq : prm (36 :: (r ++ [32])) with
      | none => simp
      | some x => exact p2 x.1 x.2 hq
    · by_cases c2 : c = 92
      · subst c2
        simp only [Option.some.injEq, reduceCtorEq, if_true]
        rw [if_neg (by decide)]
        unfold esT
        cases r with
        | nil => simp [esc]
        | cons d r =>
          rw [if_neg (by simp), if_neg (by simp)]
          simp only [List.cons_append, List.getD_cons_succ, List.getD_cons_zero]
          refine ⟨rfl, ?_⟩
          cases esc e j n d with
          | none => simp
          | some v => simp; rw [if_neg (by omega)]; simp
      · simp [c1, c2]
theorem X_app (e : En) (j n : Int) (b : List UInt8) : ∀ (k : Nat) (a : List UInt8), a.length ≤ k → X e j n (a ++ 32 :: b) = X e j n (a ++ [32]) ++ X e j n b
  | k, [], _ => by
    rw [List.nil_append, List.nil_append, X_lit (seq1_plain (by decide) (by decide)), X_lit (seq1_plain (by decide) (by decide))]
    rfl
  | 0, c :: a, h => by simp at h
  | k + 1, c :: a, h => by
    simp only [List.length_cons] at h
    obtain ⟨h1, h2⟩ := seq1_app e j n (c :: a) b (by simp)
    by_cases h0 : (seq1 e j n ((c :: a) ++ [32])).2 = 0
    · have h0' : (seq1 e j n ((c :: a) ++ 32 :: b)).2 = 0 := by rw [h1]; exact h0
      simp only [List.cons_append] at h0 h0' ⊢
      rw [X_lit h0, X_lit h0', X_app e j n b k a (by omega)]
      rfl
    · have h0' : (seq1 e j n ((c :: a) ++ 32 :: b)).2 ≠ 0 := by rw [h1]; exact h0
      have hle := seq1_le e j n ((c :: a) ++ [32])
      rw [X_seq h0, X_seq h0', h1]
      generalize (seq1 e j n ((c :: a) ++ [32])).2 = m at h0 h2 hle
      rw [List.drop_append_of_le_length h2, List.drop_append_of_le_length h2, X_app e j n b k ((c :: a).drop m) (by simp; omega), List.append_assoc]
/-- PromptParts -/
theorem c6 (e : En) (hi : Ints e) (a b : List UInt8) (n : Int) (hn : I64 n) : callW tbl 6 [encE e, .str a, .str b, .int .i64 n] = some (.bool true, []) := by
  rw [call_run tbl (f := 6) (fn := f6) rfl _ rfl]
  have h11 := c11
  obtain ⟨bb, h8, hb⟩ := c8 e
  cases bb
  · simp [f6, f6body, h8, h11]
  · by_cases hl : (500 : Int) < (a.length : Int)
    · simp [f6, f6body, h8, hl, h11]
    · by_cases hl2 : (500 : Int) < (b.length : Int)
      · simp [f6, f6body, h8, hl, hl2, h11]
      · have hsm := hb rfl
        have he := hsm.ok' hi
        have h9a := c9 e hsm he (a ++ [32]) (by simp; omega) n n hn hn
        have h9b := c9 e hsm he b (by omega) n n hn hn
        have h9c := c9 e hsm he (a ++ 32 :: b) (by simp; omega) n n hn hn
        rw [X_app e n n b a.length a (Nat.le_refl _)] at h9c
        have m1 : a.length + 1 ≤ maxStr := by unfold maxStr; omega
        have m2 : a.length + (b.length + 1) ≤ maxStr := by unfold maxStr; omega
        have m2' : a.length + 1 + b.length ≤ maxStr := by unfold maxStr; omega
        generalize X e n n (a ++ [32]) = x at h9a h9c
        generalize X e n n b = y at h9b h9c
        have lx : (x.take 4096).length ≤ 4096 := by simp; omega
        have ly : (y.take 4096).length ≤ 4096 := by simp; omega
        have w := wrap64 (((x.take 4096).length : Int) + ((y.take 4096).length : Int)) (by omega) (by omega)
        by_cases hs : (4096 : Int) ≤ ((x.take 4096).length : Int) + ((y.take 4096).length : Int)
        · generalize x.take 4096 = x' at *
          generalize y.take 4096 = y' at *
          simp [f6, f6body, h8, hl, hl2, h11, m1, h9a, h9b, w, hs]
        · have ex : x.length ≤ 4096 := by simp at hs; omega
          have ey : y.length ≤ 4096 := by simp at hs; omega
          rw [List.take_of_length_le ex] at h9a hs w
          rw [List.take_of_length_le ey] at h9b hs w
          rw [List.take_of_length_le (by simp; omega)] at h9c
          have m3 : x.length + y.length ≤ maxStr := by unfold maxStr; omega
          simp [f6, f6body, h8, hl, hl2, h11, m1, m2, m2', h9a, h9b, w, hs, h9c, m3]
end Go.Proofs.YteinopeeicjnjaaDoor
