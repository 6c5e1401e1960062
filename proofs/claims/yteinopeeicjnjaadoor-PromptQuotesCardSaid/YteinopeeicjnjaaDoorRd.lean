/- Prompts: parameters and escape sequences: the program's and the reference's. No condition. -/
import Derived.Test.YteinopeeicjnjaaDoorRc
namespace Go.Proofs.YteinopeeicjnjaaDoor
open Go.PI
set_option maxRecDepth 100000
set_option maxHeartbeats 8000000
set_option linter.unusedSimpArgs false
theorem brc_lt (r : List UInt8) (h : brc r ≠ 0) : 2 < brc r ∧ brc r < r.length ∧ r.getD (brc r) 0 = 125 := by
  have hge := wE_ge r 2
  unfold brc at h ⊢
  generalize ht : (if wE r 2 = 2 ∧ 2 < r.length ∧ spc (r.getD 2 0) = true then 3 else wE r 2) = t at h ⊢
  have h2 : 2 ≤ t := by rw [← ht]; split <;> omega
  simp only at h ⊢
  by_cases c : t = 2 ∨ r.length ≤ t ∨ r.getD t 0 ≠ 125
  · rw [if_pos c] at h; exact absurd rfl h
  · rw [if_neg c]
    refine ⟨by omega, by omega, ?_⟩
    by_cases e : r.getD t 0 = 125
    · exact e
    · exact absurd (.inr (.inr e)) c
/-- the name of the parameter at a dollar sign, and the length of all -/
def prm (r : List UInt8) : Option (List UInt8 × Nat) :=
  if r.length < 2 then none
  else if r.getD 1 0 = 123 then (if brc r = 0 then none else some ((r.drop 2).take (brc r - 2), brc r + 1))
  else if (spc (r.getD 1 0) || dgB (r.getD 1 0).toNat) = true then some ((r.drop 1).take 1, 2)
  else if okc (r.getD 1 0) = true then some ((r.drop 1).take (wE r 1 - 1), wE r 1)
  else none
def prT (e : En) (r : List UInt8) : List UInt8 × Nat := match prm r with
  | none => ([], 0)
  | some (n, k) => ((vaV e n).1, k)
theorem c17 (e : En) (he : EnOk e) (r : List UInt8) (hr : r.length ≤ 10000) : callW tbl 17 [encE e, .str r] = some (.tup [.str (prT e r).1, .int .i64 (prT e r).2], []) := by
  rw [call_run tbl (f := 17) (fn := f17) rfl _ rfl]
  unfold prT prm
  by_cases h1 : r.length < 2
  · have h1' : (r.length : Int) < 2 := by omega
    simp [-List.drop_one, f17, f17body, h1, h1']
  · have h1' : ¬ (r.length : Int) < 2 := by omega
    have hl1 : 1 < r.length := by omega
    have hg : r.getD 1 0 = r[1] := by simp [hl1]
    rw [if_neg h1, hg]
    have wl : ∀ n : List UInt8, n.length ≤ 1000000 → callW tbl 25 [encE e, .str n] = pO (vaV e n) := fun n hn => c25 e he n hn
    by_cases hb : r[1] = 123
    · have hb' : (r[1].toNat : Int) = 123 := by rw [hb]; rfl
      rw [if_pos hb]
      have h28 := c28 r (by omega) (by omega)
      by_cases h0 : brc r = 0
      · rw [if_pos h0]
        rw [h0] at h28
        simp [-List.drop_one, f17, f17body, h1', hl1, hb', h28]
      · obtain ⟨b1, b2, b3⟩ := brc_lt r h0
        rw [if_neg h0]
        generalize brc r = t at h28 b1 b2 b3 h0 ⊢
        have h25 := wl ((r.drop 2).take (t - 2)) (by simp; omega)
        have h0' : ¬ (t : Int) = 0 := by omega
        simp [-List.drop_one, f17, f17body, h1', hl1, hb', h28, h0, h0', h25, show (2 : Int) ≤ (t : Int) by omega, show t ≤ r.length by omega, show (2 : Nat) ≤ t by omega, wrapS t (by omega)]
    · have hb' : ¬ (r[1].toNat : Int) = 123 := fun e => hb (u8_eq.1 e)
      rw [if_neg hb]
      have h29 := c29 r[1]
      have h30 := c30 r[1]
      cases hs : spc r[1]
      · rw [hs] at h29
        cases hd : dgB r[1].toNat
        · simp only [Bool.or_false, Bool.false_eq_true, if_false]
          have hd2 := hd
          simp only [dgB, Bool.and_eq_false_iff, decide_eq_false_iff_not] at hd2
          cases ho : okc r[1]
          · rw [ho] at h30
            by_cases h48 : (48 : Int) ≤ r[1].toNat
            · have h57 : ¬ (r[1].toNat : Int) ≤ 57 := by omega
              simp [-List.drop_one, f17, f17body, h1', hl1, hb', h29, h48, h57, h30]
            · simp [-List.drop_one, f17, f17body, h1', hl1, hb', h29, h48, h30]
          · rw [ho] at h30
            have h31 := c31 r (by omega) 1 (by omega)
            have hge := wE_ge r 1
            have hle := wE_le (l := r) (i := 1) (by omega)
            generalize wE r 1 = t at h31 hge hle ⊢
            have h25 := wl ((r.drop 1).take (t - 1)) (by simp; omega)
            simp at h31
            by_cases h48 : (48 : Int) ≤ r[1].toNat
            · have h57 : ¬ (r[1].toNat : Int) ≤ 57 := by omega
              simp [-List.drop_one, f17, f17body, h1', hl1, hb', h29, h48, h57, h30, h31, h25, show (1 : Int) ≤ (t : Int) by omega, hle, hge]
            · simp [-List.drop_one, f17, f17body, h1', hl1, hb', h29, h48, h30, h31, h25, show (1 : Int) ≤ (t : Int) by omega, hle, hge]
        · simp only [Bool.or_true, if_true]
          simp only [dgB, Bool.and_eq_true, decide_eq_true_eq] at hd
          have h25 := wl ((r.drop 1).take 1) (by simp; omega)
          simp [-List.drop_one, f17, f17body, h1', hl1, hb', h29, hd.1, hd.2, h25, show 2 ≤ r.length by omega]
      · rw [hs] at h29
        simp only [Bool.true_or, if_true]
        have h25 := wl ((r.drop 1).take 1) (by simp; omega)
        simp [-List.drop_one, f17, f17body, h1', hl1, hb', h29, h25, show 2 ≤ r.length by omega]
/- escape sequences -/
def esc (e : En) (j n : Int) (c : UInt8) : Option (List UInt8) :=
  if c = 119 then some e.cwd
  else if c = 36 then some [36]
  else if c = 92 then some [92]
  else if c = 117 then some (vaV e [85, 83, 69, 82]).1
  else if c = 106 then some (Lib.itoa j)
  else if c = 33 then some (Lib.itoa n)
  else if c = 110 then some [10]
  else none
def esT (e : En) (j n : Int) (r : List UInt8) : List UInt8 × Nat :=
  if r.length < 2 then ([], 0) else match esc e j n (r.getD 1 0) with
  | none => ([], 0)
  | some t => (t, 2)
theorem itoa_call (n : Int) (h : I64 n) : callW tbl 32 [.int .i64 n] = some (.str (Lib.itoa n), []) := c32 n h.1 h.2
theorem c18 (e : En) (he : EnOk e) (r : List UInt8) (j n : Int) (hj : I64 j) (hn : I64 n) : callW tbl 18 [encE e, .str r, .int .i64 j, .int .i64 n] = some (.tup [.str (esT e j n r).1, .int .i64 (esT e j n r).2], []) := by
  rw [call_run tbl (f := 18) (fn := f18) rfl _ rfl]
  unfold esT
  by_cases h1 : r.length < 2
  · have h1' : (r.length : Int) < 2 := by omega
    simp [f18, f18body, h1, h1']
  · have h1' : ¬ (r.length : Int) < 2 := by omega
    have hl1 : 1 < r.length := by omega
    have hg : r.getD 1 0 = r[1] := by simp [hl1]
    rw [if_neg h1, hg]
    have htk : (r.drop 1).take 1 = [r[1]] := by rw [drop_step hl1]; rfl
    have h25 := c25 e he [85, 83, 69, 82] (by simp)
    have hj32 := itoa_call j hj
    have hn32 := itoa_call n hn
    by_cases m119 : r[1] = 119
    · have q : (r[1].toNat : Int) = 119 := by rw [m119]; rfl
      simp [-List.drop_one, f18, f18body, h1', hl1, htk, show 2 ≤ r.length by omega, m119, q, esc]
    have n119 : ¬ (r[1].toNat : Int) = 119 := fun e => m119 (u8_eq.1 e)
    by_cases m36 : r[1] = 36
    · have q : (r[1].toNat : Int) = 36 := by rw [m36]; rfl
      simp [-List.drop_one, f18, f18body, h1', hl1, htk, show 2 ≤ r.length by omega, m36, q, n119, m119, esc]
    have n36 : ¬ (r[1].toNat : Int) = 36 := fun e => m36 (u8_eq.1 e)
    by_cases m92 : r[1] = 92
    · have q : (r[1].toNat : Int) = 92 := by rw [m92]; rfl
      simp [-List.drop_one, f18, f18body, h1', hl1, htk, show 2 ≤ r.length by omega, m92, q, n119, n36, m119, m36, esc]
    have n92 : ¬ (r[1].toNat : Int) = 92 := fun e => m92 (u8_eq.1 e)
    by_cases m117 : r[1] = 117
    · have q : (r[1].toNat : Int) = 117 := by rw [m117]; rfl
      simp [-List.drop_one, f18, f18body, h1', hl1, htk, show 2 ≤ r.length by omega, m117, q, n119, n36, n92, m119, m36, m92, esc, h25]
    have n117 : ¬ (r[1].toNat : Int) = 117 := fun e => m117 (u8_eq.1 e)
    by_cases m106 : r[1] = 106
    · have q : (r[1].toNat : Int) = 106 := by rw [m106]; rfl
      simp [-List.drop_one, f18, f18body, h1', hl1, htk, show 2 ≤ r.length by omega, m106, q, n119, n36, n92, n117, m119, m36, m92, m117, esc, hj32]
    have n106 : ¬ (r[1].toNat : Int) = 106 := fun e => m106 (u8_eq.1 e)
    by_cases m33 : r[1] = 33
    · have q : (r[1].toNat : Int) = 33 := by rw [m33]; rfl
      simp [-List.drop_one, f18, f18body, h1', hl1, htk, show 2 ≤ r.length by omega, m33, q, n119, n36, n92, n117, n106, m119, m36, m92, m117, m106, esc, hn32]
    have n33 : ¬ (r[1].toNat : Int) = 33 := fun e => m33 (u8_eq.1 e)
    by_cases m110 : r[1] = 110
    · have q : (r[1].toNat : Int) = 110 := by rw [m110]; rfl
      simp [-List.drop_one, f18, f18body, h1', hl1, htk, show 2 ≤ r.length by omega, m110, q, n119, n36, n92, n117, n106, n33, m119, m36, m92, m117, m106, m33, esc]
    have n110 : ¬ (r[1].toNat : Int) = 110 := fun e => m110 (u8_eq.1 e)
    simp [-List.drop_one, f18, f18body, h1', hl1, htk, show 2 ≤ r.length by omega, n119, m119, n36, m36, n92, m92, n117, m117, n106, m106, n33, m33, n110, m110, esc]
theorem c24 (e : En) (he : EnOk e) (n : List UInt8) : callW tbl 24 [encE e, .str n] = some (.str (vaV e n).1, []) := by
  rw [call_run tbl (f := 24) (fn := f24) rfl _ rfl]
  have h := c26 e he n
  simp [f24, f24body, h]
def esO (v : Option (List UInt8)) : Option (AV × List AO) := some (.tup [.str (v.getD []), .bool v.isSome], [])
theorem c22 (e : En) (he : EnOk e) (c : UInt8) (j n : Int) (hj : I64 j) (hn : I64 n) : callW tbl 22 [encE e, .int .u8 c.toNat, .int .i64 j, .int .i64 n] = esO (esc e j n c) := by
  rw [call_run tbl (f := 22) (fn := f22) rfl _ rfl]
  unfold esO
  have h24 := c24 e he [85, 83, 69, 82]
  have hj32 := itoa_call j hj
  have hn32 := itoa_call n hn
  by_cases m119 : c = 119
  · have q : (c.toNat : Int) = 119 := by rw [m119]; rfl
    simp [-List.drop_one, f22, f22body, m119, q, esc]
  have n119 : ¬ (c.toNat : Int) = 119 := fun e => m119 (u8_eq.1 e)
  by_cases m36 : c = 36
  · have q : (c.toNat : Int) = 36 := by rw [m36]; rfl
    simp [-List.drop_one, f22, f22body, m36, q, n119, m119, esc]
  have n36 : ¬ (c.toNat : Int) = 36 := fun e => m36 (u8_eq.1 e)
  by_cases m117 : c = 117
  · have q : (c.toNat : Int) = 117 := by rw [m117]; rfl
    simp [-List.drop_one, f22, f22body, m117, q, n119, n36, m119, m36, esc, h24]
  have n117 : ¬ (c.toNat : Int) = 117 := fun e => m117 (u8_eq.1 e)
  by_cases m106 : c = 106
  · have q : (c.toNat : Int) = 106 := by rw [m106]; rfl
    simp [-List.drop_one, f22, f22body, m106, q, n119, n36, n117, m119, m36, m117, esc, hj32]
  have n106 : ¬ (c.toNat : Int) = 106 := fun e => m106 (u8_eq.1 e)
  by_cases m33 : c = 33
  · have q : (c.toNat : Int) = 33 := by rw [m33]; rfl
    simp [-List.drop_one, f22, f22body, m33, q, n119, n36, n117, n106, m119, m36, m117, m106, esc, hn32]
  have n33 : ¬ (c.toNat : Int) = 33 := fun e => m33 (u8_eq.1 e)
  by_cases m110 : c = 110
  · have q : (c.toNat : Int) = 110 := by rw [m110]; rfl
    simp [-List.drop_one, f22, f22body, m110, q, n119, n36, n117, n106, n33, m119, m36, m117, m106, m33, esc]
  have n110 : ¬ (c.toNat : Int) = 110 := fun e => m110 (u8_eq.1 e)
  by_cases m92 : c = 92
  · have q : (c.toNat : Int) = 92 := by rw [m92]; rfl
    simp [-List.drop_one, f22, f22body, m92, q, n119, n36, n117, n106, n33, n110, m119, m36, m117, m106, m33, m110, esc]
  have n92 : ¬ (c.toNat : Int) = 92 := fun e => m92 (u8_eq.1 e)
  simp [-List.drop_one, f22, f22body, n119, m119, n36, m36, n117, m117, n106, m106, n33, m33, n110, m110, n92, m92, esc]
end Go.Proofs.YteinopeeicjnjaaDoor
