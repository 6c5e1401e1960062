/- Prompts: bytes, words, the names of parameters: the program's and the reference's. No condition. -/
import Derived.Test.YteinopeeicjnjaaDoorRb
namespace Go.Proofs.YteinopeeicjnjaaDoor
open Go.PI
set_option maxRecDepth 100000
set_option maxHeartbeats 8000000
set_option linter.unusedSimpArgs false
abbrev sp7 : List UInt8 := [64, 42, 35, 63, 45, 36, 33]
def spc (b : UInt8) : Bool := decide (b ∈ sp7)
theorem u8_eq {a b : UInt8} : (a.toNat : Int) = (b.toNat : Int) ↔ a = b := ⟨fun e => UInt8.toNat_inj.1 (by omega), fun e => by rw [e]⟩
theorem c29 (b : UInt8) : callW tbl 29 [.int .u8 b.toNat] = some (.bool (spc b), []) := by
  rw [call_run tbl (f := 29) (fn := f29) rfl _ rfl]
  have hb := b.toNat_lt
  have h51 : callW tbl 51 [.str sp7, .int .u8 b.toNat] = some (.int .i64 (Lib.indexByte sp7 b), []) := by
    rw [call_ext tbl rfl]
    show ixbX (.str sp7) (.int .u8 b.toNat) = _
    simp [ixbX]
    omega
  have e := indexByte_mem sp7 b
  unfold spc
  rw [← e]
  by_cases h0 : 0 ≤ Lib.indexByte sp7 b
  · simp [f29, f29body, h51, h0]
  · simp [f29, f29body, h51, h0]
theorem spc_iff (b : UInt8) : spc b = (decide (b = 64) || decide (b = 42) || decide (b = 35) || decide (b = 63) || decide (b = 45) || decide (b = 36) || decide (b = 33)) := by
  simp [spc]
  by_cases h1 : b = 64 <;> by_cases h2 : b = 42 <;> by_cases h3 : b = 35 <;> by_cases h4 : b = 63 <;> by_cases h5 : b = 45 <;> by_cases h6 : b = 36 <;> by_cases h7 : b = 33 <;> simp [h1, h2, h3, h4, h5, h6, h7]
theorem c30 (b : UInt8) : callW tbl 30 [.int .u8 b.toNat] = some (.bool (okc b), []) := by
  rw [call_run tbl (f := 30) (fn := f30) rfl _ rfl]
  unfold okc ltB dgB
  generalize (b.toNat : Int) = n
  by_cases h0 : n = 95
  · subst h0
    simp [f30, f30body]
  · by_cases h1 : 48 ≤ n
    · by_cases h2 : n ≤ 57
      · simp [f30, f30body, h0, h1, h2, show ¬ 65 ≤ n by omega, show ¬ 97 ≤ n by omega]
      · by_cases h3 : 65 ≤ n
        · by_cases h4 : n ≤ 90
          · simp [f30, f30body, h0, h1, h2, h3, h4]
          · by_cases h5 : 97 ≤ n
            · by_cases h6 : n ≤ 122
              · simp [f30, f30body, h0, h1, h2, h3, h4, h5, h6]
              · simp [f30, f30body, h0, h1, h2, h3, h4, h5, h6]
            · simp [f30, f30body, h0, h1, h2, h3, h4, h5]
        · simp [f30, f30body, h0, h1, h2, h3, show ¬ 97 ≤ n by omega]
    · simp [f30, f30body, h0, h1, show ¬ 65 ≤ n by omega, show ¬ 97 ≤ n by omega]
theorem c34 (n : Int) : callW tbl 34 [.int .u8 n] = some (.bool (dgB n), []) := by
  rw [call_run tbl (f := 34) (fn := f34) rfl _ rfl]
  unfold dgB
  by_cases h1 : 48 ≤ n <;> by_cases h2 : n ≤ 57 <;> simp [f34, f34body, h1, h2]
theorem c36 (b : UInt8) : callW tbl 36 [.int .u8 b.toNat] = some (.bool (okc b), []) := by
  rw [call_run tbl (f := 36) (fn := f36) rfl _ rfl]
  have h34 := c34 b.toNat
  unfold okc ltB
  generalize (b.toNat : Int) = n at h34 ⊢
  by_cases h5 : 97 ≤ n
  · by_cases h6 : n ≤ 122
    · simp [f36, f36body, h5, h6]
    · simp [f36, f36body, h5, h6, show 65 ≤ n by omega, show ¬ n ≤ 90 by omega, show ¬ n = 95 by omega, h34]
  · by_cases h3 : 65 ≤ n
    · by_cases h4 : n ≤ 90
      · simp [f36, f36body, h5, h3, h4]
      · by_cases h0 : n = 95
        · subst h0
          simp [f36, f36body]
        · simp [f36, f36body, h5, h3, h4, h0, h34]
    · by_cases h0 : n = 95
      · omega
      · simp [f36, f36body, h5, h3, h0, h34]
theorem c35 (b : UInt8) : callW tbl 35 [.int .u8 b.toNat] = some (.bool (spc b), []) := by
  rw [call_run tbl (f := 35) (fn := f35) rfl _ rfl]
  rw [spc_iff]
  by_cases h1 : b = 64
  · subst h1; simp [f35, f35body]
  have n1 : ¬ (b.toNat : Int) = 64 := fun e => h1 (u8_eq.1 e)
  by_cases h2 : b = 42
  · subst h2; simp [f35, f35body]
  have n2 : ¬ (b.toNat : Int) = 42 := fun e => h2 (u8_eq.1 e)
  by_cases h3 : b = 35
  · subst h3; simp [f35, f35body]
  have n3 : ¬ (b.toNat : Int) = 35 := fun e => h3 (u8_eq.1 e)
  by_cases h4 : b = 63
  · subst h4; simp [f35, f35body]
  have n4 : ¬ (b.toNat : Int) = 63 := fun e => h4 (u8_eq.1 e)
  by_cases h5 : b = 45
  · subst h5; simp [f35, f35body]
  have n5 : ¬ (b.toNat : Int) = 45 := fun e => h5 (u8_eq.1 e)
  by_cases h6 : b = 36
  · subst h6; simp [f35, f35body]
  have n6 : ¬ (b.toNat : Int) = 36 := fun e => h6 (u8_eq.1 e)
  by_cases h7 : b = 33
  · subst h7; simp [f35, f35body]
  have n7 : ¬ (b.toNat : Int) = 33 := fun e => h7 (u8_eq.1 e)
  simp [f35, f35body, h1, h2, h3, h4, h5, h6, h7, n1, n2, n3, n4, n5, n6, n7]
/-- the end of the word that begins at i -/
def wE (l : List UInt8) (i : Nat) : Nat := i + ((l.drop i).takeWhile okc).length
theorem wE_step {l : List UInt8} {i : Nat} (h : i < l.length) : wE l i = if okc l[i] = true then wE l (i + 1) else i := by
  unfold wE
  rw [drop_step h, List.takeWhile_cons]
  split
  · simp; omega
  · simp
theorem wE_end {l : List UInt8} {i : Nat} (h : l.length ≤ i) : wE l i = i := by
  unfold wE
  rw [List.drop_eq_nil_of_le h]; rfl
theorem wE_ge (l : List UInt8) (i : Nat) : i ≤ wE l i := by unfold wE; omega
theorem wE_le {l : List UInt8} {i : Nat} (h : i ≤ l.length) : wE l i ≤ l.length := by
  unfold wE
  have : ((l.drop i).takeWhile okc).length ≤ (l.drop i).length := (List.takeWhile_sublist _).length_le
  rw [List.length_drop] at this
  omega
theorem t31 (l : List UInt8) (hl : l.length ≤ 1000000) : ∀ (k i : Nat), l.length ≤ i + k → i ≤ 1000000 → run tbl (.cl [.tmp 4]) [.blk 0, .seq (f31r4.seq .ret)] (.loop [1, 0] f31b3) [(1, .int .i64 i), (0, .str l)] [] = some (.int .i64 (wE l i), [])
  | 0, i, h, hi0 => by
    rw [run_loopD _ _ f31b3_eq, wE_end (by omega)]
    simp [show ¬ i < l.length by omega]
  | k + 1, i, h, hi0 => by
    by_cases hi : i < l.length
    · have ih := t31 l hl k (i + 1) (by omega) (by omega)
      simp only [Int.natCast_succ] at ih
      rw [run_loopD _ _ f31b3_eq, wE_step hi]
      have h30 := c30 l[i]
      cases ho : okc l[i]
      · rw [ho] at h30
        simp [hi, h30]
      · rw [ho] at h30
        simp [hi, h30, wrapS i (by omega), ih]
    · rw [run_loopD _ _ f31b3_eq, wE_end (by omega)]
      simp [hi]
theorem c31 (l : List UInt8) (hl : l.length ≤ 1000000) (i : Nat) (hi : i ≤ 1000000) : callW tbl 31 [.str l, .int .i64 i] = some (.int .i64 (wE l i), []) := by
  rw [call_run tbl (f := 31) (fn := f31) rfl _ rfl]
  have h := t31 l hl l.length i (by omega) hi
  simp [f31, f31body, h]
theorem t37 (l : List UInt8) (hl : l.length ≤ 1000000) : ∀ (k i : Nat), l.length ≤ i + k → i ≤ 1000000 → run tbl (.cl [.tmp 4]) [.blk 0, .seq (f37r4.seq .ret)] (.loop [1, 0] f37b3) [(1, .int .i64 i), (0, .str l)] [] = some (.int .i64 (wE l i), [])
  | 0, i, h, hi0 => by
    rw [run_loopD _ _ f37b3_eq, wE_end (by omega)]
    simp [show ¬ i < l.length by omega]
  | k + 1, i, h, hi0 => by
    by_cases hi : i < l.length
    · have ih := t37 l hl k (i + 1) (by omega) (by omega)
      simp only [Int.natCast_succ] at ih
      rw [run_loopD _ _ f37b3_eq, wE_step hi]
      have h36 := c36 l[i]
      cases ho : okc l[i]
      · rw [ho] at h36
        simp [hi, h36]
      · rw [ho] at h36
        simp [hi, h36, wrapS i (by omega), ih]
    · rw [run_loopD _ _ f37b3_eq, wE_end (by omega)]
      simp [hi]
theorem c37 (l : List UInt8) (hl : l.length ≤ 1000000) (i : Nat) (hi : i ≤ 1000000) : callW tbl 37 [.str l, .int .i64 i] = some (.int .i64 (wE l i), []) := by
  rw [call_run tbl (f := 37) (fn := f37) rfl _ rfl]
  have h := t37 l hl l.length i (by omega) hi
  simp [f37, f37body, h]
/- the parameter that begins at a dollar sign -/
def brc (r : List UInt8) : Nat :=
  let t := if wE r 2 = 2 ∧ 2 < r.length ∧ spc (r.getD 2 0) = true then 3 else wE r 2
  if t = 2 ∨ r.length ≤ t ∨ r.getD t 0 ≠ 125 then 0 else t
theorem c28 (r : List UInt8) (hr : r.length ≤ 1000000) (h2 : 2 ≤ r.length) : callW tbl 28 [.str r] = some (.int .i64 (brc r), []) := by
  rw [call_run tbl (f := 28) (fn := f28) rfl _ rfl]
  have h31 := c31 r hr 2 (by omega)
  have hge := wE_ge r 2
  have hle := wE_le (l := r) (i := 2) h2
  simp at h31
  have last : ∀ (t : Nat) (E : Env), (E = [(0, .str r), (3, .int .i64 t)] ∨ ∃ q, E = [(18, q), (3, .int .i64 t), (0, .str r)]) → t ≤ r.length → 2 ≤ t → run tbl (.cl [.tmp 2]) [.seq (.cond (.t 32) (.seq f28r5 .ret) .skip), .seq (.seq f28r6 .ret)] f28r4 E [] = some (.int .i64 (if t = 2 ∨ r.length ≤ t ∨ r.getD t 0 ≠ 125 then 0 else t : Nat), []) := by
    intro t E hE ht1 ht2
    by_cases e1 : t = 2
    · subst e1
      rcases hE with rfl | ⟨q, rfl⟩ <;> simp
    · have e1' : ¬ (t : Int) = 2 := by omega
      by_cases e2 : r.length ≤ t
      · rcases hE with rfl | ⟨q, rfl⟩ <;> simp [e1, e1', e2]
      · have e3 : t < r.length := by omega
        have hg : r.getD t 0 = r[t] := by simp [e3]
        rw [hg]
        by_cases e4 : r[t] = 125
        · have e5 : (r[t].toNat : Int) = 125 := by rw [e4]; rfl
          rcases hE with rfl | ⟨q, rfl⟩ <;> simp [e1, e1', e2, e3, e4, e5]
        · have e5 : ¬ (r[t].toNat : Int) = 125 := fun e => e4 (u8_eq.1 e)
          rcases hE with rfl | ⟨q, rfl⟩ <;> simp [e1, e1', e2, e3, e4, e5]
  unfold brc
  generalize hw : wE r 2 = t at h31 hge hle ⊢
  by_cases e1 : t = 2
  · subst e1
    by_cases e2 : 2 < r.length
    · have e2' : (2 : Int) < (r.length : Int) := by omega
      have hg : r.getD 2 0 = r[2] := by simp [e2]
      have h29 := c29 r[2]
      rw [hg]
      cases e3 : spc r[2]
      · rw [e3] at h29
        have hl := fun q => last 2 [(18, q), (3, .int .i64 (2 : Nat)), (0, .str r)] (.inr ⟨q, rfl⟩) (by omega) (by omega)
        simp [-f28r4_run] at hl
        simp [-f28r4_run, f28, f28body, h31, e2, e2', h29, hl]
      · rw [e3] at h29
        have hl := last 3 _ (.inl rfl) (by omega) (by omega)
        simp [-f28r4_run] at hl
        simp [-f28r4_run, f28, f28body, h31, e2, e2', h29, hl]
    · have e2' : ¬ (2 : Int) < (r.length : Int) := by omega
      have hl := fun q => last 2 [(18, q), (3, .int .i64 (2 : Nat)), (0, .str r)] (.inr ⟨q, rfl⟩) (by omega) (by omega)
      simp [-f28r4_run] at hl
      simp [-f28r4_run, f28, f28body, h31, e2, e2', hl]
  · have e1' : ¬ (t : Int) = 2 := by omega
    have hl := fun q => last t [(18, q), (3, .int .i64 t), (0, .str r)] (.inr ⟨q, rfl⟩) hle hge
    simp [-f28r4_run] at hl
    simp [-f28r4_run, f28, f28body, h31, e1, e1', hl]
end Go.Proofs.YteinopeeicjnjaaDoor
