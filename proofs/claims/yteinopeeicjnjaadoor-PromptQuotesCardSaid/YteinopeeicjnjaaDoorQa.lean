/- Parameters: digits, names, the special ones: what the program computes. No condition. -/
import Derived.Test.YteinopeeicjnjaaDoorPp
import Derived.Laws.RangeString
import Derived.Laws.RangeAny
namespace Go.Proofs.YteinopeeicjnjaaDoor
open Go.PI
set_option maxRecDepth 100000
set_option maxHeartbeats 8000000
set_option linter.unusedSimpArgs false
theorem getL {α : Type} {A Z : List α} {s : Nat} {x : α} (h : A[s]? = some x) : (A ++ Z)[s]? = some x := by
  have hs : s < A.length := by
    rcases Nat.lt_or_ge s A.length with h1 | h1
    · exact h1
    · rw [List.getElem?_eq_none h1] at h; cases h
  rw [List.getElem?_append_left hs]; exact h
@[simp] theorem get_mid {α : Type} (A : List α) (x : α) (Z : List α) : (A ++ x :: Z)[A.length]? = some x := by simp
@[simp] theorem set_mid {α : Type} (A : List α) (x y : α) (Z : List α) : (A ++ x :: Z).set A.length y = A ++ y :: Z := by
  induction A with
  | nil => rfl
  | cons a A ih => simp [ih]
@[simp] theorem get_app_add {α : Type} (A Z : List α) (k : Nat) : (A ++ Z)[A.length + k]? = Z[k]? := by
  rw [List.getElem?_append_right (by omega)]
  congr 1
  omega
theorem dec_ascii (l : List UInt8) (pos : Nat) (h : pos < l.length) (ha : l[pos].toNat < 128) : Utf8.decode ⟨l.toArray⟩ pos = (l[pos].toNat, 1) := decode_ascii ⟨l.toArray⟩ pos (by simpa [ByteArray.size] using h) ha
theorem dec_high (l : List UInt8) (pos : Nat) (h : pos < l.length) (ha : 128 ≤ l[pos].toNat) : 128 ≤ (Utf8.decode ⟨l.toArray⟩ pos).1 := (decode_high ⟨l.toArray⟩ pos (by simpa [ByteArray.size] using h) ha).1
def dgB (n : Int) : Bool := decide (48 ≤ n) && decide (n ≤ 57)
def ltB (n : Int) : Bool := (decide (65 ≤ n) && decide (n ≤ 90)) || (decide (97 ≤ n) && decide (n ≤ 122))
theorem c58 (n : Int) : callW tbl 58 [.int .i32 n] = some (.bool (dgB n), []) := by
  rw [call_run tbl (f := 58) (fn := f58) rfl _ rfl]
  unfold dgB
  by_cases h1 : 48 ≤ n <;> by_cases h2 : n ≤ 57 <;> simp [f58, f58body, h1, h2]
theorem c59 (n : Int) : callW tbl 59 [.int .i32 n] = some (.bool (ltB n), []) := by
  rw [call_run tbl (f := 59) (fn := f59) rfl _ rfl]
  unfold ltB
  by_cases h1 : 65 ≤ n
  · by_cases h2 : n ≤ 90
    · simp [f59, f59body, h1, h2]
    · by_cases h3 : 97 ≤ n
      · by_cases h4 : n ≤ 122 <;> simp [f59, f59body, h1, h2, h3, h4]
      · simp [f59, f59body, h1, h2, h3]
  · simp [f59, f59body, h1, show ¬ 97 ≤ n by omega]
theorem wrap32 (n : Int) (h1 : -2147483648 ≤ n) (h2 : n ≤ 2147483647) : IntKind.i32.wrap n = n := by
  unfold IntKind.wrap
  simp [IntKind.bits, IntKind.signed]
  omega
def okc (b : UInt8) : Bool := ltB b.toNat || decide ((b.toNat : Int) = 95) || dgB b.toNat
def okf (b : UInt8) : Bool := ltB b.toNat || decide ((b.toNat : Int) = 95)
def nmT : List UInt8 → Bool
  | [] => true
  | b :: r => okc b && nmT r
def nmH : List UInt8 → Bool
  | [] => false
  | b :: r => okf b && nmT r
def nmB (l : List UInt8) : Bool := decide (1 ≤ l.length) && decide (l.length ≤ 32) && nmH l
theorem okc_high {b : UInt8} (h : 128 ≤ b.toNat) : okc b = false := by
  simp [okc, ltB, dgB]; omega
theorem okf_high {b : UInt8} (h : 128 ≤ b.toNat) : okf b = false := by
  simp [okf, ltB]; omega
theorem t41 (l : List UInt8) (hl : l.length ≤ 1000000) : ∀ (k pos : Nat), 0 < pos → pos + k = l.length → run tbl (.cl [.tmp 2]) [.blk 0, .seq (f41r9.seq .ret)] (.loop [14] f41b8) [(14, .itr 0)] [.obj (.it l pos)] = some (.bool (nmT (l.drop pos)), [])
  | 0, pos, h0, h => by
    rw [run_loopD _ _ f41b8_eq, List.drop_eq_nil_of_le (by omega)]
    simp [show ¬ pos < l.length by omega, nmT]
  | k + 1, pos, h0, h => by
    have hp : pos < l.length := by omega
    have ih0 := t41 l hl k (pos + 1) (by omega) (by omega)
    have ih := (run_loop_scrub tbl (.cl [.tmp 2]) [.blk 0, .seq (f41r9.seq .ret)] [14] f41b8 [(32, .bool true), (14, .itr 0)] [.obj (.it l (pos + 1))] rfl).trans ih0
    rw [run_loopD _ _ f41b8_eq, drop_step hp, nmT]
    by_cases ha : l[pos].toNat < 128
    · have hd := dec_ascii l pos hp ha
      have h44 := c59 l[pos].toNat
      have h43 := c58 l[pos].toNat
      unfold okc
      cases e1 : ltB l[pos].toNat
      · rw [e1] at h44
        by_cases e2 : (l[pos].toNat : Int) = 95
        · simp [hp, hd, h44, eq_true e2, ih]
        · cases e3 : dgB l[pos].toNat
          · rw [e3] at h43
            simp [hp, hd, h44, h43, e2]
          · rw [e3] at h43
            simp [hp, hd, h44, h43, e2, ih, h0]
      · rw [e1] at h44
        simp [hp, hd, h44, ih]
    · have hd := dec_high l pos hp (by omega)
      rw [okc_high (by omega), Bool.false_and]
      obtain ⟨q1, q2, hq⟩ : ∃ q1 q2, Utf8.decode ⟨l.toArray⟩ pos = (q1, q2) := ⟨_, _, rfl⟩
      rw [hq] at hd
      simp only at hd
      have h44 := c59 q1
      have h43 := c58 q1
      rw [show ltB q1 = false by simp [ltB]; omega] at h44
      rw [show dgB q1 = false by simp [dgB]; omega] at h43
      simp [hp, hq, h44, h43, show ¬ (q1 : Int) = 95 by omega]
theorem c41 (l : List UInt8) : callW tbl 41 [.str l] = some (.bool (nmB l), []) := by
  rw [call_run tbl (f := 41) (fn := f41) rfl _ rfl]
  unfold nmB
  by_cases h1 : 1 ≤ l.length
  · by_cases h2 : l.length ≤ 32
    · have h1' : ¬ (l.length : Int) < 1 := by omega
      have h2' : ¬ (32 : Int) < l.length := by omega
      have hp : 0 < l.length := by omega
      have hl0 : l = l[0] :: l.drop 1 := by rw [← drop_step hp, List.drop_zero]
      have ht0 := t41 l (by omega) (l.length - 1) 1 (by omega) (by omega)
      have ht := (run_loop_scrub tbl (.cl [.tmp 2]) [.blk 0, .seq (f41r9.seq .ret)] [14] f41b8 [(32, .bool true), (14, .itr 0)] [.obj (.it l 1)] rfl).trans ht0
      have hm : nmH l = (okf l[0] && nmT (l.drop 1)) := by
        cases l with
        | nil => simp at hp
        | cons b r => rfl
      rw [hm]
      clear ht0
      generalize nmT (l.drop 1) = B at ht ⊢
      simp [h1, h2]
      simp [f41, f41body, h1', h2']
      rw [run_loopD _ _ f41b8_eq]
      by_cases ha : l[0].toNat < 128
      · have hd := dec_ascii l 0 hp ha
        have h44 := c59 l[0].toNat
        have h43 := c58 l[0].toNat
        unfold okf
        cases e1 : ltB l[0].toNat
        · rw [e1] at h44
          by_cases e2 : (l[0].toNat : Int) = 95
          · simp [hp, hd, h44, eq_true e2, ht]
          · generalize dgB l[0].toNat = dd at h43
            cases dd <;> simp [hp, hd, h44, h43, e2]
        · rw [e1] at h44
          simp [hp, hd, h44, ht]
      · have hd := dec_high l 0 hp (by omega)
        rw [okf_high (by omega), Bool.false_and]
        obtain ⟨q1, q2, hq⟩ : ∃ q1 q2, Utf8.decode ⟨l.toArray⟩ 0 = (q1, q2) := ⟨_, _, rfl⟩
        rw [hq] at hd
        simp only at hd
        have h44 := c59 q1
        have h43 := c58 q1
        rw [show ltB q1 = false by simp [ltB]; omega] at h44
        rw [show dgB q1 = false by simp [dgB]; omega] at h43
        simp [hp, hq, h44, h43, show ¬ (q1 : Int) = 95 by omega]
    · simp [f41, f41body, h1, h2, show ¬ (l.length : Int) < 1 by omega, show (32 : Int) < l.length by omega]
  · simp [f41, f41body, h1, show (l.length : Int) < 1 by omega]
end Go.Proofs.YteinopeeicjnjaaDoor
