/- chars.Digits and the reference's Digits: what they give, on both sides. No condition. -/
import Derived.Test.YtddcoboldcenkaaKeep
import Derived.Laws.RangeAny
namespace Go.Proofs.Ytddcoboldcenkaa
open Go.PI
set_option maxRecDepth 100000
set_option maxHeartbeats 8000000
set_option linter.unusedSimpArgs false
theorem c22 (r : Int) : callW tbl 22 [.int .i32 r] = some (.bool (decide (48 ≤ r) && decide (r ≤ 57)), []) := by
  rw [call_run tbl (f := 22) (fn := f22) rfl _ rfl]
  by_cases h1 : 48 ≤ r <;> by_cases h2 : r ≤ 57 <;> simp [f22, f22body, h1, h2]
theorem c23 (r : Int) : callW tbl 23 [.int .u8 r] = some (.bool (decide (48 ≤ r) && decide (r ≤ 57)), []) := by
  rw [call_run tbl (f := 23) (fn := f23) rfl _ rfl]
  by_cases h1 : 48 ≤ r <;> by_cases h2 : r ≤ 57 <;> simp [f23, f23body, h1, h2]
def isD (c : UInt8) : Bool := decide (48 ≤ c.toNat) && decide (c.toNat ≤ 57)
/-- the number, as long as it is not too great -/
def dgl : List UInt8 → Nat → Option Nat
  | [], n => some n
  | c :: r, n => if isD c = true then (if 2147483647 < 10 * n + (c.toNat - 48) then none else dgl r (10 * n + (c.toNat - 48))) else none
def dgr : List UInt8 → Nat → Option Nat
  | [], n => some n
  | c :: r, n => if isD c = true then dgr r (10 * n + (c.toNat - 48)) else none
def outD : Option Nat → Option (AV × List AO)
  | some n => some (.tup [.int .i64 n, .bool true], [])
  | none => some (.tup [.int .i64 0, .bool false], [])
theorem dec_ascii (s : List UInt8) (i : Nat) (h : i < s.length) (ha : s[i].toNat < 128) : Utf8.decode ⟨s.toArray⟩ i = (s[i].toNat, 1) :=
  decode_ascii ⟨s.toArray⟩ i (by simpa [ByteArray.size] using h) (by simpa [ByteArray.getElem_eq_getElem_data] using ha)
theorem dec_high (s : List UInt8) (i : Nat) (h : i < s.length) (ha : 128 ≤ s[i].toNat) : 128 ≤ (Utf8.decode ⟨s.toArray⟩ i).1 :=
  (decode_high ⟨s.toArray⟩ i (by simpa [ByteArray.size] using h) (by simpa [ByteArray.getElem_eq_getElem_data] using ha)).1
theorem t20 (s : List UInt8) : ∀ (k i n : Nat), i + k = s.length → n ≤ 2147483647 → run tbl (.cl [.tmp 2, .tmp 3]) [.blk 0, .seq (f20r15.seq .ret)] (.loop [17, 4] f20b14) [(17, .itr 0), (4, .int .i64 n)] [.obj (.it s i)] = outD (dgl (s.drop i) n)
  | 0, i, n, h, hn => by
    rw [run_loopD _ _ f20b14_eq]
    simp [show ¬ i < s.length by omega, show s.drop i = [] from List.drop_eq_nil_of_le (by omega), dgl, outD]
  | k + 1, i, n, h, hn => by
    have hi : i < s.length := by omega
    rw [run_loopD _ _ f20b14_eq, drop_step hi, dgl]
    by_cases hd : isD s[i] = true
    · have hd2 := hd
      simp [isD] at hd2
      have hc := c22 s[i].toNat
      have ih := t20 s k (i + 1) (10 * n + (s[i].toNat - 48)) (by omega)
      have e1 : ((s[i].toNat : Int) - 48) = ((s[i].toNat - 48 : Nat) : Int) := by omega
      have w1 : IntKind.i32.wrap ((s[i].toNat - 48 : Nat) : Int) = ((s[i].toNat - 48 : Nat) : Int) := by unfold IntKind.wrap; simp [IntKind.bits, IntKind.signed]; omega
      have w2 := wrap64 ((s[i].toNat - 48 : Nat) : Int) (by omega) (by omega)
      have w3 := wrap64 (10 * (n : Int)) (by omega) (by omega)
      have w4 := wrap64 (10 * (n : Int) + ((s[i].toNat - 48 : Nat) : Int)) (by omega) (by omega)
      rw [if_pos hd]
      by_cases hb : 2147483647 < 10 * n + (s[i].toNat - 48)
      · simp [hi, dec_ascii s i hi (by omega), hc, show (48 : Int) ≤ (s[i].toNat : Int) by omega, show (s[i].toNat : Int) ≤ 57 by omega, e1, w1, w2, w3, w4, hb, show (2147483647 : Int) < 10 * (n : Int) + ((s[i].toNat - 48 : Nat) : Int) by omega, outD]
      · have ih := ih (by omega)
        rw [if_neg hb]
        simp [hi, dec_ascii s i hi (by omega), hc, show (48 : Int) ≤ (s[i].toNat : Int) by omega, show (s[i].toNat : Int) ≤ 57 by omega, e1, w1, w2, w3, w4, hb, show ¬ (2147483647 : Int) < 10 * (n : Int) + ((s[i].toNat - 48 : Nat) : Int) by omega]
        simp at ih
        rw [run_loop_scrub _ _ _ _ _ _ _ (by simp)]
        simp
        exact ih
    · rw [if_neg hd]
      by_cases ha : s[i].toNat < 128
      · have hc := c22 s[i].toNat
        simp [isD] at hd
        by_cases h48 : 48 ≤ s[i].toNat
        · simp [hi, dec_ascii s i hi ha, hc, show (48 : Int) ≤ (s[i].toNat : Int) by omega, show ¬ (s[i].toNat : Int) ≤ 57 by have := hd h48; omega, outD]
        · simp [hi, dec_ascii s i hi ha, hc, show ¬ (48 : Int) ≤ (s[i].toNat : Int) by omega, outD]
      · have hh := dec_high s i hi (by omega)
        have hc := c22 ((Utf8.decode ⟨s.toArray⟩ i).1 : Nat)
        simp [hi, hc, show ¬ ((Utf8.decode ⟨s.toArray⟩ i).1 : Int) ≤ 57 by omega, outD]
def dgI (s : List UInt8) : Option Nat := if s = [48] then some 0 else if s = [] ∨ s[0]? = some 48 then none else dgl s 0
theorem c20 (s : List UInt8) : callW tbl 20 [.str s] = outD (dgI s) := by
  rw [call_run tbl (f := 20) (fn := f20) rfl _ rfl]
  have h := t20 s s.length 0 0 (by omega) (by omega)
  simp at h
  unfold dgI
  by_cases h1 : s = [48]
  · subst h1; simp [f20, f20body, outD]
  · rw [if_neg h1]
    by_cases h2 : s = []
    · subst h2; simp [f20, f20body, outD]
    · have hp : 0 < s.length := List.length_pos_iff.2 h2
      by_cases h3 : s[0] = 48
      · rw [if_pos (.inr (by rw [List.getElem?_eq_getElem hp, h3]))]
        simp [f20, f20body, h1, h2, hp, h3, outD]
      · have h4 : ¬ ((s[0].toNat : Int) = 48) := fun e => h3 (UInt8.toNat_inj.1 (by simpa using Int.ofNat_inj.1 e))
        rw [if_neg (fun hh => hh.elim h2 (fun e => h3 (by rw [List.getElem?_eq_getElem hp] at e; exact Option.some.inj e)))]
        simp [f20, f20body, h1, h2, hp, h4, h]
theorem t21 (s : List UInt8) (hs : s.length ≤ 10) : ∀ (k i n : Nat), i + k = s.length → n + 1 ≤ 10 ^ i → run tbl (.cl [.tmp 2, .tmp 3]) [.blk 0, .seq ((f21r11.seq (.cond (.t 43) (f21r12.seq .ret) .skip)).seq (f21r13.seq .ret))] (.loop [0, 5, 4] f21b10) [(0, .str s), (5, .int .i64 i), (4, .int .i64 n)] [] = outD ((dgr (s.drop i) n).filter (fun m => decide (m ≤ 2147483647)))
  | 0, i, n, h, hn => by
    rw [run_loopD _ _ f21b10_eq]
    by_cases hb : 2147483647 < n
    · simp [show ¬ i < s.length by omega, show s.drop i = [] from List.drop_eq_nil_of_le (by omega), dgr, outD, Option.filter, show (2147483647 : Int) < n by omega, show ¬ n ≤ 2147483647 by omega]
    · simp [show ¬ i < s.length by omega, show s.drop i = [] from List.drop_eq_nil_of_le (by omega), dgr, outD, Option.filter, show ¬ (2147483647 : Int) < n by omega, show n ≤ 2147483647 by omega]
  | k + 1, i, n, h, hn => by
    have hi : i < s.length := by omega
    have hq : 10 ^ i ≤ 10 ^ 9 := Nat.pow_le_pow_right (by omega) (by omega)
    rw [run_loopD _ _ f21b10_eq, drop_step hi, dgr]
    have hc := c23 s[i].toNat
    by_cases hd : isD s[i] = true
    · have hd2 := hd
      simp [isD] at hd2
      have ih := t21 s hs k (i + 1) (10 * n + (s[i].toNat - 48)) (by omega) (by rw [Nat.pow_succ]; omega)
      rw [Int.natCast_succ] at ih
      have e1 : ((s[i].toNat : Int) - 48) = ((s[i].toNat - 48 : Nat) : Int) := by omega
      have w1 : IntKind.u8.wrap ((s[i].toNat - 48 : Nat) : Int) = ((s[i].toNat - 48 : Nat) : Int) := by unfold IntKind.wrap; simp [IntKind.bits, IntKind.signed]; omega
      have w2 := wrap64 ((s[i].toNat - 48 : Nat) : Int) (by omega) (by omega)
      have w3 := wrap64 (10 * (n : Int)) (by omega) (by omega)
      have w4 := wrap64 (10 * (n : Int) + ((s[i].toNat - 48 : Nat) : Int)) (by omega) (by omega)
      rw [if_pos hd]
      simp at ih
      simp [hi, hc, show (48 : Int) ≤ (s[i].toNat : Int) by omega, show (s[i].toNat : Int) ≤ 57 by omega, e1, w1, w2, w3, w4, wrapS i (by omega)]
      exact ih
    · rw [if_neg hd]
      simp [isD] at hd
      by_cases h48 : 48 ≤ s[i].toNat
      · simp [hi, hc, show (48 : Int) ≤ (s[i].toNat : Int) by omega, show ¬ (s[i].toNat : Int) ≤ 57 by have := hd h48; omega, outD]
      · simp [hi, hc, show ¬ (48 : Int) ≤ (s[i].toNat : Int) by omega, outD]
/- plain: the two give the same -/
theorem dgr_ge : ∀ (s : List UInt8) (n m : Nat), dgr s n = some m → n ≤ m
  | [], n, m, h => by simp [dgr] at h; omega
  | c :: r, n, m, h => by
    rw [dgr] at h
    split at h
    · have := dgr_ge r _ m h; omega
    · cases h
theorem dgl_dgr : ∀ (s : List UInt8) (n : Nat), n ≤ 2147483647 → dgl s n = (dgr s n).filter (fun m => decide (m ≤ 2147483647))
  | [], n, h => by simp [dgl, dgr, Option.filter, h]
  | c :: r, n, h => by
    rw [dgl, dgr]
    split
    · split
      · cases hd : dgr r (10 * n + (c.toNat - 48)) with
        | none => rfl
        | some m =>
          have := dgr_ge r _ m hd
          simp [Option.filter]; omega
      · exact dgl_dgr r _ (by omega)
    · rfl
theorem dgl_big : ∀ (s : List UInt8) (n m : Nat), dgl s n = some m → n * 10 ^ s.length ≤ m
  | [], n, m, h => by simp [dgl] at h; simp; omega
  | c :: r, n, m, h => by
    rw [dgl] at h
    split at h
    · split at h
      · cases h
      · have := dgl_big r _ m h
        rw [List.length_cons, Nat.pow_succ]
        have : n * (10 ^ r.length * 10) = (10 * n) * 10 ^ r.length := by rw [Nat.mul_comm (10 ^ r.length), ← Nat.mul_assoc, Nat.mul_comm n]
        rw [this]
        exact Nat.le_trans (Nat.mul_le_mul_right _ (Nat.le_add_right _ _)) ‹_›
    · cases h
theorem dgl_le : ∀ (s : List UInt8) (n m : Nat), n ≤ 2147483647 → dgl s n = some m → m ≤ 2147483647
  | [], n, m, hn, h => by simp [dgl] at h; omega
  | c :: r, n, m, hn, h => by
    rw [dgl] at h
    split at h
    · split at h
      · cases h
      · exact dgl_le r _ m (by omega) h
    · cases h
theorem dgl_long (s : List UInt8) (h0 : s[0]? ≠ some 48) (hl : 10 < s.length) : dgl s 0 = none := by
  cases hm : dgl s 0 with
  | none => rfl
  | some m =>
    exfalso
    have hle := dgl_le s 0 m (by omega) hm
    cases s with
    | nil => simp at hl
    | cons c r =>
      rw [dgl] at hm
      split at hm
      · rename_i hd
        split at hm
        · cases hm
        · have hb := dgl_big r _ m hm
          simp [isD] at hd
          have hc : c.toNat ≠ 48 := fun e => h0 (by simp; exact UInt8.toNat_inj.1 e)
          have hp : 10 ^ 10 ≤ 10 ^ r.length := Nat.pow_le_pow_right (by omega) (by simp at hl; omega)
          have := Nat.le_trans (Nat.mul_le_mul (show 1 ≤ 10 * 0 + (c.toNat - 48) by omega) hp) hb
          omega
      · cases hm
theorem c21 (s : List UInt8) : callW tbl 21 [.str s] = outD (dgI s) := by
  rw [call_run tbl (f := 21) (fn := f21) rfl _ rfl]
  unfold dgI
  by_cases h2 : s = []
  · subst h2; simp [f21, f21body, outD]
  · have hp : 0 < s.length := List.length_pos_iff.2 h2
    by_cases hl : 10 < s.length
    · rw [if_neg (fun e => by rw [e] at hl; simp at hl)]
      have : (if s = [] ∨ s[0]? = some 48 then none else dgl s 0) = none := by
        split
        · rfl
        · exact dgl_long s (fun e => by simp_all) hl
      rw [this]
      simp [f21, f21body, h2, show (10 : Int) < s.length by omega, outD]
    · have h := t21 s (by omega) s.length 0 0 (by omega) (by simp)
      rw [List.drop_zero, ← dgl_dgr s 0 (by omega)] at h
      simp at h
      by_cases h3 : s[0] = 48
      · by_cases h1 : s.length = 1
        · obtain ⟨c, rfl⟩ : ∃ c, s = [c] := List.length_eq_one_iff.1 h1
          simp at h3
          subst h3
          rw [if_pos rfl]
          simp [dgl, isD, outD] at h
          simp [f21, f21body, h, outD]
        · rw [if_neg (fun e => h1 (by rw [e]; rfl)), if_pos (.inr (by rw [List.getElem?_eq_getElem hp, h3]))]
          simp [f21, f21body, h2, hp, h3, show ¬ (10 : Int) < s.length by omega, show (1 : Int) < s.length by omega, outD]
      · have h4 : ¬ ((s[0].toNat : Int) = 48) := fun e => h3 (UInt8.toNat_inj.1 (by simpa using Int.ofNat_inj.1 e))
        rw [if_neg (fun e => h3 (by simp [e])), if_neg (fun hh => hh.elim h2 (fun e => h3 (by rw [List.getElem?_eq_getElem hp] at e; exact Option.some.inj e)))]
        simp [f21, f21body, h2, hp, h4, show ¬ (10 : Int) < s.length by omega, h]
end Go.Proofs.Ytddcoboldcenkaa
