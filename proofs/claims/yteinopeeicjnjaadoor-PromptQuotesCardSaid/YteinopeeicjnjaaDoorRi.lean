/- Prompts: the laws PromptExpands, PromptFirsts, PromptPlain, PromptQuotes. No condition. -/
import Derived.Test.YteinopeeicjnjaaDoorRh
namespace Go.Proofs.YteinopeeicjnjaaDoor
open Go.PI
set_option maxRecDepth 100000
set_option maxHeartbeats 8000000
set_option linter.unusedSimpArgs false
structure Ints (e : En) : Prop where
  st : I64 e.stat
  pd : I64 e.pid
  la : I64 e.last
theorem Sm.ok' {e : En} (h : Sm e) (hi : Ints e) : EnOk e := h.ok hi.st hi.pd hi.la
theorem va_var {e : En} (hs : Sm e) {n : List UInt8} (h : nmB n = true) : (vaV e n).1.length ≤ 500 := by
  obtain ⟨h1, h2⟩ := nm_dg h
  unfold vaV
  rw [h1, h2, if_neg (by simp)]
  simp only [h, if_true]
  unfold vrO
  cases hq : gtV e.vars n with
  | none => simp
  | some v =>
    have := hs.vs v (gtV_mem hq)
    simp only
    split
    · simpa using this
    · simp
/-- PromptExpands -/
theorem c3 (e : En) (hi : Ints e) (s : List UInt8) (j n : Int) (hj : I64 j) (hn : I64 n) : callW tbl 3 [encE e, .str s, .int .i64 j, .int .i64 n] = some (.bool true, []) := by
  rw [call_run tbl (f := 3) (fn := f3) rfl _ rfl]
  have h11 := c11
  obtain ⟨b, h8, hb⟩ := c8 e
  cases b
  · simp [f3, f3body, h8, h11]
  · by_cases hl : (5000 : Int) < (s.length : Int)
    · simp [f3, f3body, h8, hl, h11]
    · have hsm := hb rfl
      have h9 := c9 e hsm (hsm.ok' hi) s (by omega) j n hj hn
      have h10 := c10 e hsm (hsm.ok' hi) s (by omega) j n hj hn
      simp [f3, f3body, h8, hl, h11, h9, h10]
/- First, Second -/
def frV (e : En) (j n : Int) : List UInt8 := if (vaV e [80, 83, 49]).2 = true then (X e j n (vaV e [80, 83, 49]).1).take 4096 else [36, 32]
def scV (e : En) : List UInt8 := if (vaV e [80, 83, 50]).2 = true then (X e 0 0 (vaV e [80, 83, 50]).1).take 4096 else [62, 32]
theorem c12 (e : En) (hsm : Sm e) (he : EnOk e) (j n : Int) (hj : I64 j) (hn : I64 n) : callW tbl 12 [encE e, .int .i64 j, .int .i64 n] = some (.str (frV e j n), []) := by
  rw [call_run tbl (f := 12) (fn := f12) rfl _ rfl]
  have h25 := c25 e he [80, 83, 49] (by simp)
  have hl := va_var hsm (n := [80, 83, 49]) rfl
  unfold frV
  generalize vaV e [80, 83, 49] = v at h25 hl ⊢
  have h9 := c9 e hsm he v.1 (by omega) j n hj hn
  obtain ⟨v1, v2⟩ := v
  cases v2
  · simp [f12, f12body, h25]
  · simp [f12, f12body, h25, h9]
theorem c13 (e : En) (hsm : Sm e) (he : EnOk e) (j n : Int) (hj : I64 j) (hn : I64 n) : callW tbl 13 [encE e, .int .i64 j, .int .i64 n] = some (.str (frV e j n), []) := by
  rw [call_run tbl (f := 13) (fn := f13) rfl _ rfl]
  have h26 := c26 e he [80, 83, 49]
  have hl := va_var hsm (n := [80, 83, 49]) rfl
  unfold frV
  generalize vaV e [80, 83, 49] = v at h26 hl ⊢
  have h10 := c10 e hsm he v.1 (by omega) j n hj hn
  obtain ⟨v1, v2⟩ := v
  cases v2
  · simp [f13, f13body, h26]
  · simp [f13, f13body, h26, h10]
theorem c14 (e : En) (hsm : Sm e) (he : EnOk e) : callW tbl 14 [encE e] = some (.str (scV e), []) := by
  rw [call_run tbl (f := 14) (fn := f14) rfl _ rfl]
  have h25 := c25 e he [80, 83, 50] (by simp)
  have hl := va_var hsm (n := [80, 83, 50]) rfl
  unfold scV
  generalize vaV e [80, 83, 50] = v at h25 hl ⊢
  have h9 := c9 e hsm he v.1 (by omega) 0 0 ⟨by omega, by omega⟩ ⟨by omega, by omega⟩
  obtain ⟨v1, v2⟩ := v
  cases v2
  · simp [f14, f14body, h25]
  · simp [f14, f14body, h25, h9]
theorem c15 (e : En) (hsm : Sm e) (he : EnOk e) : callW tbl 15 [encE e] = some (.str (scV e), []) := by
  rw [call_run tbl (f := 15) (fn := f15) rfl _ rfl]
  have h26 := c26 e he [80, 83, 50]
  have hl := va_var hsm (n := [80, 83, 50]) rfl
  unfold scV
  generalize vaV e [80, 83, 50] = v at h26 hl ⊢
  have h10 := c10 e hsm he v.1 (by omega) 0 0 ⟨by omega, by omega⟩ ⟨by omega, by omega⟩
  obtain ⟨v1, v2⟩ := v
  cases v2
  · simp [f15, f15body, h26]
  · simp [f15, f15body, h26, h10]
/-- PromptFirsts -/
theorem c4 (e : En) (hi : Ints e) (j n : Int) (hj : I64 j) (hn : I64 n) : callW tbl 4 [encE e, .int .i64 j, .int .i64 n] = some (.bool true, []) := by
  rw [call_run tbl (f := 4) (fn := f4) rfl _ rfl]
  have h11 := c11
  obtain ⟨b, h8, hb⟩ := c8 e
  cases b
  · simp [f4, f4body, h8, h11]
  · have hsm := hb rfl
    have he := hsm.ok' hi
    have h12 := c12 e hsm he j n hj hn
    have h13 := c13 e hsm he j n hj hn
    have h14 := c14 e hsm he
    have h15 := c15 e hsm he
    simp [f4, f4body, h8, h11, h12, h13, h14, h15]
/-- PromptPlain -/
theorem t5 (s : List UInt8) (hs : s.length ≤ 4096) (t : List UInt8) (e : En) (ht : (∀ i < s.length, s.getD i 0 ≠ 36 ∧ s.getD i 0 ≠ 92) → t = s) : ∀ (k i : Nat), i + k = s.length → (∀ m < i, s.getD m 0 ≠ 36 ∧ s.getD m 0 ≠ 92) →
    run tbl (.cl [.tmp 6]) [.blk 0, .seq (f5r14.seq .ret)] (.loop [7, 1, 8] f5b13) [(7, .str t), (1, .str s), (8, .int .i64 i)] [.box 30 15 (encE e)] = some (.bool true, [])
  | 0, i, h, hm => by
    rw [run_loopD _ _ f5b13_eq]
    have h11 := c11
    have htt := ht (fun m hm' => hm m (by omega))
    simp [show ¬ i < s.length by omega, htt, h11]
  | k + 1, i, h, hm => by
    have hi : i < s.length := by omega
    have h11 := c11
    rw [run_loopD _ _ f5b13_eq]
    by_cases e92 : s[i] = 92
    · have q92 : (s[i].toNat : Int) = 92 := by rw [e92]; rfl
      simp [hi, eq_true q92, h11]
    · have q92 : ¬ (s[i].toNat : Int) = 92 := fun e => e92 (u8_eq.1 e)
      by_cases e36 : s[i] = 36
      · have q36 : (s[i].toNat : Int) = 36 := by rw [e36]; rfl
        simp [hi, q92, eq_true q36, h11]
      · have q36 : ¬ (s[i].toNat : Int) = 36 := fun e => e36 (u8_eq.1 e)
        have ih := t5 s hs t e ht k (i + 1) (by omega) (fun m hm' => by
          by_cases e0 : m = i
          · subst e0
            rw [show s.getD m 0 = s[m] by simp [hi]]
            exact ⟨e36, e92⟩
          · exact hm m (by omega))
        simp only [Int.natCast_succ] at ih
        simp [hi, q92, q36, wrapS i (by omega), ih]
theorem c5 (e : En) (hi : Ints e) (s : List UInt8) (n : Int) (hn : I64 n) : callW tbl 5 [encE e, .str s, .int .i64 n] = some (.bool true, []) := by
  rw [call_run tbl (f := 5) (fn := f5) rfl _ rfl]
  have h11 := c11
  obtain ⟨b, h8, hb⟩ := c8 e
  cases b
  · simp [f5, f5body, h8, h11]
  · by_cases hl : (5000 : Int) < (s.length : Int)
    · simp [f5, f5body, h8, hl, h11]
    · have hsm := hb rfl
      have h9 := c9 e hsm (hsm.ok' hi) s (by omega) n n hn hn
      have hlen : ((X e n n s).take 4096).length ≤ 4096 := by simp; omega
      have ht : s.length ≤ 4096 → (∀ i < s.length, s.getD i 0 ≠ 36 ∧ s.getD i 0 ≠ 92) → (X e n n s).take 4096 = s := by
        intro h1 h2
        have := X_plain (e := e) (j := n) (n := n) s s.length 0 (by omega) (fun i _ hi2 => h2 i (by omega))
        simp only [List.drop_zero, Nat.zero_add, List.drop_length, X_nil, List.append_nil, List.take_length] at this
        rw [this, List.take_of_length_le h1]
      generalize (X e n n s).take 4096 = t at h9 hlen ht
      have hlen' : ¬ (4096 : Int) < (t.length : Int) := by omega
      by_cases hl2 : (4096 : Int) < (s.length : Int)
      · simp [f5, f5body, h8, hl, h11, h9, hlen', hl2]
      · have h5 := t5 s (by omega) t e (ht (by omega)) s.length 0 (by omega) (by simp)
        simp at h5
        simp [f5, f5body, h8, hl, h11, h9, hlen', hl2, h5]
/- PromptQuotes -/
def quo (s : List UInt8) : List UInt8 := s.flatMap fun b => if b = 92 ∨ b = 36 then [92, b] else [b]
theorem quo_len : ∀ s : List UInt8, (quo s).length ≤ 2 * s.length
  | [] => by simp [quo]
  | b :: r => by
    have := quo_len r
    simp only [quo, List.flatMap_cons, List.length_append, List.length_cons] at this ⊢
    split <;> simp only [List.length_cons, List.length_nil] <;> omega
theorem X_quo (e : En) (j n : Int) : ∀ s : List UInt8, X e j n (quo s) = s
  | [] => rfl
  | b :: r => by
    have ih := X_quo e j n r
    simp only [quo, List.flatMap_cons] at ih ⊢
    by_cases c : b = 92 ∨ b = 36
    · rw [if_pos c]
      have hs : seq1 e j n ([92, b] ++ List.flatMap (fun b => if b = 92 ∨ b = 36 then [92, b] else [b]) r) = ([b], 2) := by
        unfold seq1
        rw [if_neg (by simp), if_pos (by simp)]
        unfold esT
        rw [if_neg (by simp)]
        rcases c with rfl | rfl <;> simp [esc]
      rw [X_seq (by rw [hs]; simp), hs]
      simp only [List.cons_append, List.nil_append, List.drop_succ_cons, List.drop_zero]
      rw [ih]
    · rw [if_neg c, List.singleton_append, X_lit (seq1_plain (fun e => c (.inr e)) (fun e => c (.inl e))), ih]
theorem t7 (e : En) (hsm : Sm e) (he : EnOk e) (s : List UInt8) (hs : s.length ≤ 1000) : ∀ (k i : Nat), i + k = s.length →
    run tbl (.cl [.tmp 4]) [.blk 0, .seq (f7r11.seq .ret)] (.loop [5, 6, 2, 1] f7b10) [(5, .str (quo (s.take i))), (6, .int .i64 i), (2, .bptr 0 0), (1, .str s)] [.box 30 15 (encE e)] = some (.bool true, [])
  | 0, i, h => by
    rw [run_loopD _ _ f7b10_eq]
    have h11 := c11
    have h9 := c9 e hsm he (quo s) (by have := quo_len s; omega) 1 1 ⟨by omega, by omega⟩ ⟨by omega, by omega⟩
    rw [X_quo, List.take_of_length_le (show s.length ≤ 4096 by omega)] at h9
    rw [List.take_of_length_le (show s.length ≤ i by omega)]
    simp [show ¬ i < s.length by omega, h9, h11]
  | k + 1, i, h => by
    have hi : i < s.length := by omega
    have ih := t7 e hsm he s hs k (i + 1) (by omega)
    simp only [Int.natCast_succ] at ih
    have hst : quo (s.take (i + 1)) = quo (s.take i) ++ (if s[i] = 92 ∨ s[i] = 36 then [92, s[i]] else [s[i]]) := by
      unfold quo
      rw [List.take_succ_eq_append_getElem hi, List.flatMap_append, List.flatMap_cons, List.flatMap_nil, List.append_nil]
    rw [hst] at ih
    have hql := quo_len (s.take i)
    simp only [List.length_take] at hql
    rw [run_loopD _ _ f7b10_eq]
    generalize quo (s.take i) = q at ih hql ⊢
    have m1 : q.length + 1 ≤ maxStr := by unfold maxStr; omega
    have m2 : q.length + 1 + 1 ≤ maxStr := by unfold maxStr; omega
    have w1 := wrapS i (by omega)
    rw [Int.natCast_succ] at w1
    have z1 : (0 : Int) ≤ (i : Int) + 1 := by omega
    have t1 : ((i : Int) + 1).toNat = i + 1 := by omega
    have htk : (s.drop i).take 1 = [s[i]] := by rw [drop_step hi]; rfl
    have hle : i + 1 ≤ s.length := by omega
    by_cases e92 : s[i] = 92
    · have q92 : (s[i].toNat : Int) = 92 := by rw [e92]; rfl
      rw [if_pos (.inl e92)] at ih
      simp [hi, eq_true q92, m1, m2, w1, z1, t1, htk, hle, ih]
    · have q92 : ¬ (s[i].toNat : Int) = 92 := fun e => e92 (u8_eq.1 e)
      by_cases e36 : s[i] = 36
      · have q36 : (s[i].toNat : Int) = 36 := by rw [e36]; rfl
        rw [if_pos (.inr e36)] at ih
        simp [hi, q92, eq_true q36, m1, m2, w1, z1, t1, htk, hle, ih]
      · have q36 : ¬ (s[i].toNat : Int) = 36 := fun e => e36 (u8_eq.1 e)
        rw [if_neg (by simp [e92, e36])] at ih
        simp [hi, q92, q36, m1, m2, w1, z1, t1, htk, hle, ih]
theorem c7 (e : En) (hi : Ints e) (s : List UInt8) : callW tbl 7 [encE e, .str s] = some (.bool true, []) := by
  rw [call_run tbl (f := 7) (fn := f7) rfl _ rfl]
  have h11 := c11
  obtain ⟨b, h8, hb⟩ := c8 e
  cases b
  · simp [f7, f7body, h8, h11]
  · by_cases hl : (1000 : Int) < (s.length : Int)
    · simp [f7, f7body, h8, hl, h11]
    · have hsm := hb rfl
      have h7 := t7 e hsm (hsm.ok' hi) s (by omega) s.length 0 (by omega)
      simp [quo] at h7
      simp [f7, f7body, h8, hl, h11, h7]
end Go.Proofs.YteinopeeicjnjaaDoor
