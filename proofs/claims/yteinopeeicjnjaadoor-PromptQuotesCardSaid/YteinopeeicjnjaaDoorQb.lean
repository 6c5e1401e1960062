/- Parameters: digits, variables: what the program computes. No condition. -/
import Derived.Test.YteinopeeicjnjaaDoorQa
namespace Go.Proofs.YteinopeeicjnjaaDoor
open Go.PI
set_option maxRecDepth 100000
set_option maxHeartbeats 8000000
set_option linter.unusedSimpArgs false
def dgT : List UInt8 → Nat → Option Nat
  | [], n => some n
  | b :: r, n => if dgB b.toNat = true then (if 2147483647 < 10 * n + (b.toNat - 48) then none else dgT r (10 * n + (b.toNat - 48))) else none
def dgV (l : List UInt8) : Option Nat := if l = [48] then some 0 else if l.head? = none ∨ l.head? = some 48 then none else dgT l 0
abbrev dgO (v : Option Nat) : Option (AV × List AO) := some (.tup [.int .i64 ((v.getD 0 : Nat) : Int), .bool v.isSome], [])
theorem t40 (l : List UInt8) (hl : l.length ≤ 1000000) : ∀ (k pos n : Nat), n ≤ 2147483647 → pos + k = l.length → run tbl (.cl [.tmp 2, .tmp 3]) [.blk 0, .seq (f40r15.seq .ret)] (.loop [17, 4] f40b14) [(17, .itr 0), (4, .int .i64 n)] [.obj (.it l pos)] = dgO (dgT (l.drop pos) n)
  | 0, pos, n, hn, h => by
    rw [run_loopD _ _ f40b14_eq, List.drop_eq_nil_of_le (by omega)]
    simp [show ¬ pos < l.length by omega, dgT]
  | k + 1, pos, n, hn, h => by
    have hp : pos < l.length := by omega
    rw [run_loopD _ _ f40b14_eq, drop_step hp, dgT]
    by_cases ha : l[pos].toNat < 128
    · have hd := dec_ascii l pos hp ha
      have h43 := c58 l[pos].toNat
      cases e3 : dgB l[pos].toNat
      · rw [e3] at h43
        simp [hp, hd, h43]
      · rw [e3] at h43
        have e4 : 48 ≤ l[pos].toNat ∧ l[pos].toNat ≤ 57 := by
          simp [dgB] at e3; omega
        rw [if_pos rfl]
        have w1 : IntKind.i32.wrap ((l[pos].toNat : Int) - 48) = ((l[pos].toNat - 48 : Nat) : Int) := by rw [wrap32 _ (by omega) (by omega)]; omega
        have w2 := wrap64 ((l[pos].toNat - 48 : Nat) : Int) (by omega) (by omega)
        have w3 := wrap64 (10 * (n : Int)) (by omega) (by omega)
        have w4 := wrap64 (10 * (n : Int) + ((l[pos].toNat - 48 : Nat) : Int)) (by omega) (by omega)
        have e5 : (10 * (n : Int) + ((l[pos].toNat - 48 : Nat) : Int)) = ((10 * n + (l[pos].toNat - 48) : Nat) : Int) := by omega
        rw [e5] at w4
        generalize hm : 10 * n + (l[pos].toNat - 48) = m at w4 e5
        by_cases h5 : 2147483647 < m
        · rw [if_pos h5]
          simp [hp, hd, h43, w1, w2, w3, w4, e5, show (2147483647 : Int) < m by omega]
        · rw [if_neg h5]
          have ih0 := t40 l hl k (pos + 1) m (by omega) (by omega)
          have ih := (run_loop_scrub tbl (.cl [.tmp 2, .tmp 3]) [.blk 0, .seq (f40r15.seq .ret)] [17, 4] f40b14 [(31, .bool false), (4, .int .i64 m), (17, .itr 0)] [.obj (.it l (pos + 1))] rfl).trans ih0
          simp [hp, hd, h43, w1, w2, w3, w4, e5, show ¬ (2147483647 : Int) < m by omega, ih, ih0]
    · have hd := dec_high l pos hp (by omega)
      obtain ⟨q1, q2, hq⟩ : ∃ q1 q2, Utf8.decode ⟨l.toArray⟩ pos = (q1, q2) := ⟨_, _, rfl⟩
      rw [hq] at hd
      simp only at hd
      have h43 := c58 q1
      rw [show dgB q1 = false by simp [dgB]; omega] at h43
      rw [show dgB l[pos].toNat = false by simp [dgB]; omega]
      simp [hp, hq, h43]
theorem c40 (l : List UInt8) (hl : l.length ≤ 1000000) : callW tbl 40 [.str l] = dgO (dgV l) := by
  rw [call_run tbl (f := 40) (fn := f40) rfl _ rfl]
  unfold dgV
  by_cases h0 : l = [48]
  · subst h0
    simp [f40, f40body]
  · rw [if_neg h0]
    cases l with
    | nil => simp [f40, f40body]
    | cons b r =>
      have ht := t40 (b :: r) hl (b :: r).length 0 0 (by omega) (by simp)
      rw [List.drop_zero] at ht
      by_cases hb : b = 48
      · subst hb
        simp [f40, f40body]
        rw [if_neg (by simpa using h0)]
        rfl
      · have hb' : ¬ (b.toNat : Int) = 48 := by
          intro e
          exact hb (UInt8.toNat_inj.1 (by simpa using (by omega : b.toNat = 48)))
        rw [if_neg (by simp [hb])]
        generalize dgT (b :: r) 0 = X at ht ⊢
        simp [f40, f40body]
        rw [if_neg (by rintro ⟨e, _⟩; exact hb e), if_neg hb']
        exact ht
def spB : List UInt8 → Bool
  | [c] => decide (0 ≤ Lib.indexByte [64, 42, 35, 63, 45, 36, 33, 48] c)
  | _ => false
theorem c54 (s : List UInt8) (c : UInt8) : callW tbl 54 [.str s, .str [c]] = some (.bool (decide (0 ≤ Lib.indexByte s c)), []) := call_ext tbl rfl _
theorem c38 (l : List UInt8) : callW tbl 38 [.str l] = some (.bool (spB l), []) := by
  rw [call_run tbl (f := 38) (fn := f38) rfl _ rfl]
  match l with
  | [] => simp [f38, f38body, spB]
  | [c] =>
    have h := c54 [64, 42, 35, 63, 45, 36, 33, 48] c
    simp [f38, f38body, h, spB]
  | a :: b :: r =>
    simp [f38, f38body, spB, show ¬ ((r.length : Int) + 1 + 1 = 1) by omega]
structure Vr where
  nm : List UInt8
  vl : List UInt8
  st : Bool
  s1 : Bool
  s2 : Bool
abbrev encV (v : Vr) : AV := .agg [.str v.nm, .str v.vl, .bool v.st, .bool v.s1, .bool v.s2]
abbrev pV (l : List Vr) : AV := .sl 5 (l.map encV)
def ixG {α : Type} (p : α → Bool) : List α → Nat → Int
  | [], _ => -1
  | x :: r, i => if p x = true then (i : Int) else ixG p r (i + 1)
theorem ixG_step {α : Type} {p : α → Bool} {l : List α} {i : Nat} (h : i < l.length) : ixG p (l.drop i) i = if p l[i] = true then (i : Int) else ixG p (l.drop (i + 1)) (i + 1) := by rw [drop_step h]; rfl
abbrev nmX (n : List UInt8) (v : Vr) : Bool := decide (v.nm = n)
theorem cv69 (n : List UInt8) (v : Vr) (Z : List AO) : callV tbl 69 [encV v, .bptr 0 0] (.box 9 1 (.str n) :: Z) = some (.bool (nmX n v), .box 9 1 (.str n) :: (Z ++ [.box 42 5 (encV v)])) := by
  rw [callV_run tbl (f := 69) (fn := f69) rfl _ _ rfl]
  by_cases h : v.nm = n
  · simp [f69, f69body, h, nmX]
  · simp [f69, f69body, h, nmX]
theorem t68 {l : List Vr} (hl : l.length ≤ 1000000) (n : List UInt8) :
    ∀ (k i : Nat) (Z : List AO), i + k = l.length → ∃ Z', run tbl (.op [.tmp 4]) [.blk 0, .seq (f68r8.seq .ret)] (.loop [8, 7, 1, 9] f68b7) [(8, .int .i64 l.length), (7, pV l), (1, .fn 69 [.bptr 0 0]), (9, .int .i64 i)] (.box 9 1 (.str n) :: Z) = some (.int .i64 (ixG (nmX n) (l.drop i) i), .box 9 1 (.str n) :: (Z ++ Z'))
  | 0, i, Z, h => by
    refine ⟨[], ?_⟩
    rw [run_loopD _ _ f68b7_eq, List.drop_eq_nil_of_le (by omega)]
    simp [show ¬ i < l.length by omega, ixG]
  | k + 1, i, Z, h => by
    have hi : i < l.length := by omega
    have h1 := cv69 n l[i] (Z ++ [.box 42 5 (encV l[i])])
    obtain ⟨Z', ih⟩ := t68 hl n k (i + 1) (Z ++ [.box 42 5 (encV l[i])] ++ [.box 42 5 (encV l[i])]) (by omega)
    rw [ixG_step hi]
    rw [Int.natCast_succ] at ih
    cases e : nmX n l[i]
    · refine ⟨[.box 42 5 (encV l[i])] ++ [.box 42 5 (encV l[i])] ++ Z', ?_⟩
      rw [e] at h1
      simp only [List.append_assoc, List.cons_append, List.nil_append] at h1 ih
      rw [run_loopD _ _ f68b7_eq]
      simp [hi, h1, wrapS i (by omega), ih]
    · refine ⟨[.box 42 5 (encV l[i])] ++ [.box 42 5 (encV l[i])], ?_⟩
      rw [e] at h1
      simp only [List.append_assoc, List.cons_append, List.nil_append] at h1
      rw [run_loopD _ _ f68b7_eq]
      simp [hi, h1]
theorem cv68 {l : List Vr} (hl : l.length ≤ 1000000) (n : List UInt8) (Z : List AO) : ∃ Z', callV tbl 68 [pV l, .fn 69 [.bptr 0 0]] (.box 9 1 (.str n) :: Z) = some (.int .i64 (ixG (nmX n) l 0), .box 9 1 (.str n) :: (Z ++ Z')) := by
  obtain ⟨Z', h⟩ := t68 hl n l.length 0 Z (by omega)
  refine ⟨Z', ?_⟩
  rw [callV_run tbl (f := 68) (fn := f68) rfl _ _ rfl]
  simp at h
  simp [f68, f68body, h]
def gtV (l : List Vr) (n : List UInt8) : Option Vr := l.find? (nmX n)
abbrev dV : Vr := ⟨[], [], false, false, false⟩
theorem ixG_find {α : Type} (p : α → Bool) : ∀ (l : List α) (i : Nat), (ixG p l i = -1 ∧ l.find? p = none) ∨ ∃ k, ∃ h : k < l.length, ixG p l i = ((i + k : Nat) : Int) ∧ l.find? p = some l[k]
  | [], i => .inl ⟨rfl, rfl⟩
  | x :: r, i => by
    cases e : p x
    · rcases ixG_find p r (i + 1) with ⟨h1, h2⟩ | ⟨k, hk, h1, h2⟩
      · exact .inl ⟨by simp [ixG, e, h1], by simp [e, h2]⟩
      · exact .inr ⟨k + 1, by simpa using hk, by simp [ixG, e, h1]; omega, by simp [e, h2]⟩
    · exact .inr ⟨0, by simp, by simp [ixG, e], by simp [e]⟩
theorem c60 {l : List Vr} (hl : l.length ≤ 1000000) (n : List UInt8) : callW tbl 60 [pV l, .str n] = some (.tup [encV ((gtV l n).getD dV), .bool (gtV l n).isSome], []) := by
  rw [call_run tbl (f := 60) (fn := f60) rfl _ rfl]
  obtain ⟨Z', h⟩ := cv68 hl n [.box 42 5 (encV dV)]
  unfold gtV
  simp only [List.cons_append, List.nil_append] at h
  rcases ixG_find (nmX n) l 0 with ⟨h1, h2⟩ | ⟨k, hk, h1, h2⟩
  · rw [h1] at h
    rw [h2]
    simp [f60, f60body, h]
  · rw [h1] at h
    rw [h2]
    simp at h
    simp [f60, f60body, h, hk]
end Go.Proofs.YteinopeeicjnjaaDoor
