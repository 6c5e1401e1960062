/- Prompts: the plain form of an expansion; runes; lengths. No program but for what the values are. No condition. -/
import Derived.Test.YteinopeeicjnjaaDoorRe
namespace Go.Proofs.YteinopeeicjnjaaDoor
open Go.PI
set_option maxRecDepth 100000
set_option maxHeartbeats 8000000
set_option linter.unusedSimpArgs false
theorem prm_some {r n : List UInt8} {k : Nat} (h : prm r = some (n, k)) : 2 ≤ k ∧ k ≤ r.length := by
  unfold prm at h
  split at h
  · cases h
  · rename_i h1
    split at h
    · split at h
      · cases h
      · rename_i h2
        have := brc_lt r h2
        simp only [Option.some.injEq, Prod.mk.injEq] at h
        omega
    · split at h
      · simp only [Option.some.injEq, Prod.mk.injEq] at h
        omega
      · split at h
        · rename_i ho
          simp only [Option.some.injEq, Prod.mk.injEq] at h
          have hl : 1 < r.length := by omega
          have h2 := wE_step hl
          have hg : r.getD 1 0 = r[1] := by simp [hl]
          rw [hg] at ho
          rw [if_pos ho] at h2
          have := wE_ge r (1 + 1)
          have := wE_le (l := r) (i := 1) (by omega)
          omega
        · cases h
theorem prT_le (e : En) (r : List UInt8) : (prT e r).2 = 0 ∨ (2 ≤ (prT e r).2 ∧ (prT e r).2 ≤ r.length) := by
  unfold prT
  split
  · exact .inl rfl
  · rename_i n k h
    exact .inr (prm_some h)
theorem esT_le (e : En) (j n : Int) (r : List UInt8) : (esT e j n r).2 = 0 ∨ (2 ≤ (esT e j n r).2 ∧ (esT e j n r).2 ≤ r.length) := by
  unfold esT
  split
  · exact .inl rfl
  · split
    · exact .inl rfl
    · right
      rename_i h _ _ _
      simp; omega
/-- what stands at the beginning: its text, and its length (0: no sequence) -/
def seq1 (e : En) (j n : Int) (l : List UInt8) : List UInt8 × Nat :=
  if l.head? = some 36 then prT e l else if l.head? = some 92 then esT e j n l else ([], 0)
theorem seq1_le (e : En) (j n : Int) (l : List UInt8) : (seq1 e j n l).2 = 0 ∨ (2 ≤ (seq1 e j n l).2 ∧ (seq1 e j n l).2 ≤ l.length) := by
  unfold seq1
  split
  · exact prT_le e l
  · split
    · exact esT_le e j n l
    · exact .inl rfl
/-- the expansion, with enough rounds -/
def xF (e : En) (j n : Int) : Nat → List UInt8 → List UInt8
  | 0, _ => []
  | _ + 1, [] => []
  | k + 1, b :: r => if (seq1 e j n (b :: r)).2 = 0 then b :: xF e j n k r else (seq1 e j n (b :: r)).1 ++ xF e j n k ((b :: r).drop (seq1 e j n (b :: r)).2)
theorem xF_more (e : En) (j n : Int) : ∀ (k m : Nat) (l : List UInt8), l.length ≤ k → l.length ≤ m → xF e j n k l = xF e j n m l
  | 0, m, l, h1, h2 => by
    obtain rfl : l = [] := List.eq_nil_of_length_eq_zero (by omega)
    cases m <;> rfl
  | k + 1, 0, l, h1, h2 => by
    obtain rfl : l = [] := List.eq_nil_of_length_eq_zero (by omega)
    rfl
  | k + 1, m + 1, [], _, _ => rfl
  | k + 1, m + 1, b :: r, h1, h2 => by
    simp only [List.length_cons] at h1 h2
    rw [xF, xF]
    have hle := seq1_le e j n (b :: r)
    by_cases c : (seq1 e j n (b :: r)).2 = 0
    · rw [if_pos c, if_pos c, xF_more e j n k m r (by omega) (by omega)]
    · rw [if_neg c, if_neg c, xF_more e j n k m _ (by simp; omega) (by simp; omega)]
def X (e : En) (j n : Int) (l : List UInt8) : List UInt8 := xF e j n l.length l
theorem X_nil (e : En) (j n : Int) : X e j n [] = [] := rfl
theorem X_lit {e : En} {j n : Int} {b : UInt8} {r : List UInt8} (h : (seq1 e j n (b :: r)).2 = 0) : X e j n (b :: r) = b :: X e j n r := by
  unfold X
  rw [List.length_cons, xF, if_pos h]
theorem X_seq {e : En} {j n : Int} {l : List UInt8} (h : (seq1 e j n l).2 ≠ 0) : X e j n l = (seq1 e j n l).1 ++ X e j n (l.drop (seq1 e j n l).2) := by
  have hle := seq1_le e j n l
  cases l with
  | nil =>
    rcases hle with h' | ⟨h1, h2⟩
    · exact absurd h' h
    · simp at h2; omega
  | cons b r =>
    unfold X
    rw [List.length_cons, xF, if_neg h, xF_more e j n r.length _ _ (by simp; omega) (Nat.le_refl _)]
theorem seq1_plain {e : En} {j n : Int} {b : UInt8} {r : List UInt8} (h1 : b ≠ 36) (h2 : b ≠ 92) : (seq1 e j n (b :: r)).2 = 0 := by
  unfold seq1
  simp [h1, h2]
/-- bytes that are not those two are as they are -/
theorem X_plain {e : En} {j n : Int} (s : List UInt8) : ∀ (k d : Nat), d + k ≤ s.length → (∀ i, d ≤ i → i < d + k → s.getD i 0 ≠ 36 ∧ s.getD i 0 ≠ 92) → X e j n (s.drop d) = (s.drop d).take k ++ X e j n (s.drop (d + k))
  | 0, d, _, _ => by simp
  | k + 1, d, h, hb => by
    have hd : d < s.length := by omega
    have h0 := hb d (Nat.le_refl _) (by omega)
    have hg : s.getD d 0 = s[d] := by simp [hd]
    rw [hg] at h0
    have ih := X_plain (e := e) (j := j) (n := n) s k (d + 1) (by omega) (fun i h1 h2 => hb i (by omega) (by omega))
    rw [drop_step hd, X_lit (seq1_plain h0.1 h0.2), ih, List.take_succ_cons, List.cons_append, show d + (k + 1) = d + 1 + k by omega]
/- runes -/
theorem dec_wide (l : List UInt8) (pos : Nat) (h : pos < l.length) : pos + (Utf8.decode ⟨l.toArray⟩ pos).2 ≤ l.length ∧ 1 ≤ (Utf8.decode ⟨l.toArray⟩ pos).2 ∧ ∀ i, pos < i → i < pos + (Utf8.decode ⟨l.toArray⟩ pos).2 → 128 ≤ (l.getD i 0).toNat := by
  have hsz : (⟨l.toArray⟩ : ByteArray).size = l.length := ba_size l
  have hget : ∀ k, (⟨l.toArray⟩ : ByteArray).get! k = l.getD k 0 := by
    intro k
    show l.toArray[k]! = l.getD k 0
    simp [List.getD_eq_getElem?_getD]
    rfl
  obtain ⟨g, hg⟩ : ∃ g : Nat → Nat, ∀ k, (l.getD k 0).toNat = g k := ⟨_, fun _ => rfl⟩
  unfold Utf8.decode
  simp only [hget, hsz, hg]
  have one : pos + 1 ≤ l.length ∧ 1 ≤ 1 ∧ ∀ i, pos < i → i < pos + 1 → 128 ≤ g i := ⟨by omega, by omega, fun i h1 h2 => by omega⟩
  split
  · exact one
  split
  · rename_i hc
    simp only [Bool.and_eq_true, beq_iff_eq, decide_eq_true_eq] at hc
    split
    · refine ⟨by simp only; omega, by simp only; omega, fun i h1 h2 => ?_⟩
      simp only at h2
      obtain rfl : i = pos + 1 := by omega
      omega
    · exact one
  split
  · rename_i hc
    simp only [Bool.and_eq_true, beq_iff_eq, decide_eq_true_eq] at hc
    split
    · refine ⟨by simp only; omega, by simp only; omega, fun i h1 h2 => ?_⟩
      simp only at h2
      rcases (show i = pos + 1 ∨ i = pos + 2 by omega) with rfl | rfl <;> omega
    · exact one
  split
  · rename_i hc
    simp only [Bool.and_eq_true, beq_iff_eq, decide_eq_true_eq] at hc
    split
    · refine ⟨by simp only; omega, by simp only; omega, fun i h1 h2 => ?_⟩
      simp only at h2
      rcases (show i = pos + 1 ∨ i = pos + 2 ∨ i = pos + 3 by omega) with rfl | rfl | rfl <;> omega
    · exact one
  · exact one
/- lengths -/
theorem itoa_len (n : Int) (h : I64 n) : (Lib.itoa n).length ≤ 21 := by
  obtain ⟨h1, h2⟩ := h
  unfold Lib.itoa
  split
  · have := dec_len 19 n.natAbs (by omega)
    simp; omega
  · have := dec_len 19 n.toNat (by omega)
    omega
theorem flb_len (n q : Int) (c : UInt8) : (flb n q c).length ≤ 1 := by unfold flb; split <;> simp
theorem gtV_mem {l : List Vr} {n : List UInt8} {v : Vr} (h : gtV l n = some v) : v ∈ l := List.mem_of_find?_eq_some h
theorem va_len {e : En} (hs : Sm e) (he : EnOk e) (n : List UInt8) : (vaV e n).1.length ≤ 1000000000 := by
  unfold vaV
  split
  · unfold spV
    split
    · exact he.j1
    split
    · exact he.j2
    split
    · have := itoa_len e.params.length ⟨by omega, by have := hs.p; omega⟩; simp only; omega
    split
    · have := itoa_len e.stat he.st; simp only; omega
    split
    · simp only [flT, List.length_append]
      have := flb_len e.opts 32 97; have := flb_len e.opts 128 67; have := flb_len e.opts 1 101; have := flb_len e.opts 8 102
      have := flb_len e.opts 64 109; have := flb_len e.opts 16 110; have := flb_len e.opts 2 117; have := flb_len e.opts 4 120
      simp only [List.length_nil]
      omega
    split
    · have := itoa_len e.pid he.pd; simp only; omega
    split
    · split
      · simp
      · have := itoa_len e.last he.la; simp only; omega
    · have := hs.n; simp only; omega
  · split
    · split
      · simp
      · rename_i k _ hk
        simp only
        cases hq : e.params[k - 1]? with
        | none => simp
        | some p =>
          have := hs.ps p (List.mem_of_getElem? hq)
          simp; omega
    · split
      · simp only
        unfold vrO
        cases hq : gtV e.vars n with
        | none => simp
        | some v =>
          have := hs.vs v (gtV_mem hq)
          simp only
          split
          · simp; omega
          · simp
      · simp
theorem esT_len {e : En} (hs : Sm e) (he : EnOk e) (j n : Int) (hj : I64 j) (hn : I64 n) (l : List UInt8) : (esT e j n l).1.length ≤ 1000000000 := by
  unfold esT
  split
  · simp
  · split
    · simp
    · rename_i t ht
      simp only
      unfold esc at ht
      repeat' split at ht
      all_goals first | (injection ht with ht; subst ht) | cases ht
      · have := hs.c; omega
      · simp
      · simp
      · exact va_len hs he _
      · have := itoa_len j hj; omega
      · have := itoa_len n hn; omega
      · simp
theorem prT_len {e : En} (hs : Sm e) (he : EnOk e) (l : List UInt8) : (prT e l).1.length ≤ 1000000000 := by
  unfold prT
  split
  · simp
  · exact va_len hs he _
end Go.Proofs.YteinopeeicjnjaaDoor
