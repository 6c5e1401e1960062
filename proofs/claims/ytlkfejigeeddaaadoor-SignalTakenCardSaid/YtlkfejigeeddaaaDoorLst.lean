/- Signals: lists of numbers, in the reference's functions. No condition. -/
import Derived.Test.YtlkfejigeeddaaaDoorNam
namespace Go.Proofs.YtlkfejigeeddaaaDoor
open Go.PI
set_option maxRecDepth 100000
set_option maxHeartbeats 8000000
set_option linter.unusedSimpArgs false
abbrev il (l : List Int) : AV := .sl 1 (l.map (.int .i64))
abbrev encS (p i c : List Int) : AV := .agg [il p, il i, il c]
@[simp] theorem set_concat {α : Type} (l : List α) (a b : α) : (l ++ [a]).set l.length b = l ++ [b] := by
  induction l with
  | nil => rfl
  | cons c l ih => simp [ih]
@[simp] theorem take_len_map' {α β : Type} (l : List α) (f : α → β) : (l.map f).take l.length = l.map f := List.take_of_length_le (by simp)
/- Has -/
theorem t24 (l : List Int) (hl : l.length ≤ 1000000) (n : Int) : ∀ (k i : Nat), i + k = l.length → run tbl (.cl [.tmp 4]) [.blk 0, .seq (f24r7.seq .ret)] (.loop [0, 1, 5] f24b6) [(0, il l), (1, .int .i64 n), (5, .int .i64 i)] [] = some (.bool (decide (n ∈ l.drop i)), [])
  | 0, i, h => by
    rw [run_loopD _ _ f24b6_eq]
    simp [show ¬ i < l.length by omega, show l.drop i = [] from List.drop_eq_nil_of_le (by omega)]
  | k + 1, i, h => by
    have hi : i < l.length := by omega
    have ih := t24 l hl n k (i + 1) (by omega)
    rw [Int.natCast_succ] at ih
    rw [run_loopD _ _ f24b6_eq, drop_step hi]
    by_cases e : l[i] = n
    · simp [-List.getElem_cons_drop, hi, e]
    · simp [-List.getElem_cons_drop, hi, e, Ne.symm e, wrapS i (by omega), ih]
theorem c24 (l : List Int) (hl : l.length ≤ 1000000) (n : Int) : callW tbl 24 [il l, .int .i64 n] = some (.bool (decide (n ∈ l)), []) := by
  rw [call_run tbl (f := 24) (fn := f24) rfl _ rfl]
  have h := t24 l hl n l.length 0 (by omega)
  simp at h
  simp [f24, f24body, h]
/- list -/
def at0 (l : List Int) (i : Nat) : Int := (l[i]?).getD 0
theorem at0_eq {l : List Int} {i : Nat} (h : i < l.length) : at0 l i = l[i] := by unfold at0; rw [List.getElem?_eq_getElem h]; rfl
def lsf (l : List Int) : Nat → Nat → Bool
  | 0, _ => true
  | k + 1, i => if nm (at0 l i) = [] ∨ (0 < i ∧ at0 l i ≤ at0 l (i - 1)) then false else lsf l k (i + 1)
theorem wrapN (i : Nat) (h : i < 9223372036854775807) : IntKind.i64.wrap (i : Int) = i := wrap64 _ (by omega) (by omega)
theorem t37 (l : List Int) (hl : l.length ≤ 1000000) : ∀ (k i : Nat), i + k = l.length → run tbl (.cl [.tmp 2]) [.blk 0, .seq (f37r7.seq .ret)] (.loop [0, 3] f37b6) [(0, il l), (3, .int .i64 i)] [] = some (.bool (lsf l k i), [])
  | 0, i, h => by
    rw [run_loopD _ _ f37b6_eq]
    simp [show ¬ i < l.length by omega, lsf]
  | k + 1, i, h => by
    have hi : i < l.length := by omega
    have ih := t37 l hl k (i + 1) (by omega)
    rw [Int.natCast_succ] at ih
    have hc := c14 l[i]
    rw [run_loopD _ _ f37b6_eq, lsf, at0_eq hi]
    by_cases h1 : nm l[i] = []
    · rw [if_pos (.inl h1)]
      rw [h1] at hc
      simp [hi, hc]
    · rcases i with _ | j
      · rw [if_neg (by rintro (hh | ⟨hh, _⟩); exact h1 hh; omega)]
        simp at hc ih
        simp [hi, hc, h1, ih]
      · have hj : j < l.length := by omega
        have w1 := wrapN j (by omega)
        have ws := wrapS (j + 1) (by omega)
        simp at ws hc ih
        rw [show j + 1 - 1 = j by omega, at0_eq hj]
        by_cases h2 : l[j + 1] ≤ l[j]
        · rw [if_pos (.inr ⟨by omega, h2⟩)]
          simp [hi, hj, show (j : Int) + 1 < l.length by omega, show (0 : Int) ≤ (j : Int) + 1 by omega, show (0 : Int) < (j : Int) + 1 by omega, hc, h1, w1, ws, h2]
        · rw [if_neg (by rintro (hh | ⟨_, hh⟩); exact h1 hh; exact h2 hh)]
          simp [hi, hj, show (j : Int) + 1 < l.length by omega, show (0 : Int) ≤ (j : Int) + 1 by omega, show (0 : Int) < (j : Int) + 1 by omega, hc, h1, w1, ws, h2, ih]
theorem c37 (l : List Int) (hl : l.length ≤ 1000000) : callW tbl 37 [il l] = some (.bool (lsf l l.length 0), []) := by
  rw [call_run tbl (f := 37) (fn := f37) rfl _ rfl]
  have h := t37 l hl l.length 0 (by omega)
  simp at h
  simp [f37, f37body, h]
/- drop -/
def dr (l : List Int) (n : Int) : Nat → List Int
  | 0 => []
  | i + 1 => if at0 l i = n then dr l n i else dr l n i ++ [at0 l i]
theorem dr_length (l : List Int) (n : Int) : ∀ i, (dr l n i).length ≤ i
  | 0 => Nat.le_refl _
  | i + 1 => by
    have := dr_length l n i
    rw [dr]
    split
    · omega
    · simp; omega
abbrev outI (l : List Int) : Option (AV × List AO) := some (.ref 0 0 0 l.length, [.row 3 1 0 (l.map (.int .i64))])
theorem t42 (l : List Int) (hl : l.length ≤ 1000) (n : Int) (h0 : AO) : ∀ (k i g : Nat), i + k = l.length → run tbl (.cl [.tmp 4]) [.blk 0, .seq (f42r8.seq .ret)] (.loop [5, 6, 1, 0] f42b7) [(5, .ref 1 g 0 (dr l n i).length), (6, .int .i64 i), (1, .int .i64 n), (0, il l)] [h0, .row 3 1 g ((dr l n i).map (.int .i64))] = outI (dr l n l.length)
  | 0, i, g, h => by
    obtain rfl : i = l.length := by omega
    rw [run_loopD _ _ f42b7_eq]
    simp
  | k + 1, i, g, h => by
    have hi : i < l.length := by omega
    have hd := dr_length l n i
    rw [run_loopD _ _ f42b7_eq]
    by_cases e : l[i] = n
    · have ih := t42 l hl n h0 k (i + 1) g (by omega)
      rw [dr, at0_eq hi, if_pos e] at ih
      rw [Int.natCast_succ] at ih
      simp [hi, e, wrapS i (by omega), ih]
    · have ih := t42 l hl n h0 k (i + 1) (g + 1) (by omega)
      rw [dr, at0_eq hi, if_neg e] at ih
      rw [Int.natCast_succ] at ih
      simp at ih
      simp [hi, e, wrapS i (by omega), show (dr l n i).length ≤ 1073741823 by omega, ih]
theorem c42 (l : List Int) (hl : l.length ≤ 1000) (n : Int) : callW tbl 42 [il l, .int .i64 n] = outI (dr l n l.length) := by
  rw [call_run tbl (f := 42) (fn := f42) rfl _ rfl]
  have h := fun h0 => t42 l hl n h0 l.length 0 0 (by omega)
  simp [dr] at h
  simp [f42, f42body, h]
/- numbers of a list and itself -/
theorem t43 (l : List Int) (hl : l.length ≤ 1000000) : ∀ (k i : Nat), i + k = l.length → run tbl (.cl [.tmp 4]) [.blk 0, .seq (f43r9.seq .ret)] (.loop [0, 1, 5] f43b8) [(0, il l), (1, il l), (5, .int .i64 i)] [] = some (.bool true, [])
  | 0, i, h => by
    rw [run_loopD _ _ f43b8_eq]
    simp [show ¬ i < l.length by omega]
  | k + 1, i, h => by
    have hi : i < l.length := by omega
    have ih := t43 l hl k (i + 1) (by omega)
    rw [Int.natCast_succ] at ih
    rw [run_loopD _ _ f43b8_eq]
    simp [hi, wrapS i (by omega), ih]
/-- a slice that holds the numbers: a list, or an empty one -/
inductive IsL : AV → List Int → Prop
  | il (l : List Int) : IsL (il l) l
  | e0 : IsL .e0 []
theorem c43 {x y : AV} {l : List Int} (hl : l.length ≤ 1000000) (hx : IsL x l) (hy : IsL y l) : callW tbl 43 [x, y] = some (.bool true, []) := by
  cases hx with
  | il l =>
    cases hy with
    | il =>
      rw [call_run tbl (f := 43) (fn := f43) rfl _ rfl]
      have h := t43 l hl l.length 0 (by omega)
      simp at h
      simp [f43, f43body, h]
    | e0 => exact callW_of tbl (k := 50) (by kernel_rfl)
  | e0 =>
    cases hy with
    | il => exact callW_of tbl (k := 50) (by kernel_rfl)
    | e0 => exact callW_of tbl (k := 50) (by kernel_rfl)
theorem c21 {a b c a' b' c' : AV} {p i q : List Int} (hp : p.length ≤ 1000000) (hi : i.length ≤ 1000000) (hq : q.length ≤ 1000000) (h1 : IsL a p) (h2 : IsL b i) (h3 : IsL c q) (k1 : IsL a' p) (k2 : IsL b' i) (k3 : IsL c' q) :
    callW tbl 21 [.agg [a, b, c], .agg [a', b', c']] = some (.bool true, []) := by
  rw [call_run tbl (f := 21) (fn := f21) rfl _ rfl]
  have e1 := c43 hp h1 k1
  have e2 := c43 hi h2 k2
  have e3 := c43 hq h3 k3
  cases h1 <;> cases h2 <;> cases h3 <;> cases k1 <;> cases k2 <;> cases k3 <;> simp [f21, f21body, e1, e2, e3]
/- add -/
def adl (l : List Int) (n : Int) : Nat → List Int
  | 0 => []
  | k + 1 => if ((k + 1 : Nat) : Int) = n ∨ ((k + 1 : Nat) : Int) ∈ l then adl l n k ++ [((k + 1 : Nat) : Int)] else adl l n k
theorem adl_length (l : List Int) (n : Int) : ∀ k, (adl l n k).length ≤ k
  | 0 => Nat.le_refl _
  | k + 1 => by
    have := adl_length l n k
    rw [adl]
    split
    · simp; omega
    · omega
theorem t46 (l : List Int) (hl : l.length ≤ 1000) (n : Int) (h0 : AO) : ∀ (k i g : Nat), i + k = 20 → run tbl (.cl [.tmp 4]) [.blk 0, .seq (f46r8.seq .ret)] (.loop [5, 6, 1, 0] f46b7) [(5, .ref 1 g 0 (adl l n i).length), (6, .int .i64 ((i + 1 : Nat) : Int)), (1, .int .i64 n), (0, il l)] [h0, .row 3 1 g ((adl l n i).map (.int .i64))] = outI (adl l n 20)
  | 0, i, g, h => by
    obtain rfl : i = 20 := by omega
    rw [run_loopD _ _ f46b7_eq]
    simp
  | k + 1, i, g, h => by
    have hd := adl_length l n i
    have hc := c24 l (by omega) ((i + 1 : Nat) : Int)
    have ws := wrapS (i + 1) (by omega)
    have hle : ((i + 1 : Nat) : Int) ≤ 20 := by omega
    rw [run_loopD _ _ f46b7_eq]
    by_cases e1 : ((i + 1 : Nat) : Int) = n
    · have ih := t46 l hl n h0 k (i + 1) (g + 1) (by omega)
      rw [adl, if_pos (.inl e1)] at ih
      generalize hm : ((i + 1 : Nat) : Int) = m at *
      have em : ((i + 1 + 1 : Nat) : Int) = m + 1 := by omega
      rw [em] at ih ws
      simp at ih
      simp [hle, eq_true e1, ws, show (adl l n i).length ≤ 1073741823 by omega, ih]
    · by_cases e2 : ((i + 1 : Nat) : Int) ∈ l
      · have ih := t46 l hl n h0 k (i + 1) (g + 1) (by omega)
        rw [adl, if_pos (.inr e2)] at ih
        generalize hm : ((i + 1 : Nat) : Int) = m at *
        have em : ((i + 1 + 1 : Nat) : Int) = m + 1 := by omega
        rw [em] at ih ws
        simp [e2] at hc
        simp at ih
        simp [hle, e1, hc, ws, show (adl l n i).length ≤ 1073741823 by omega, ih]
      · have ih := t46 l hl n h0 k (i + 1) g (by omega)
        rw [adl, if_neg (fun hh => hh.elim e1 e2)] at ih
        generalize hm : ((i + 1 : Nat) : Int) = m at *
        have em : ((i + 1 + 1 : Nat) : Int) = m + 1 := by omega
        rw [em] at ih ws
        simp [e2] at hc
        simp [hle, e1, hc, ws, ih]
theorem c46 (l : List Int) (hl : l.length ≤ 1000) (n : Int) : callW tbl 46 [il l, .int .i64 n] = outI (adl l n 20) := by
  rw [call_run tbl (f := 46) (fn := f46) rfl _ rfl]
  have h := fun h0 => t46 l hl n h0 20 0 0 (by omega)
  rw [show adl l n 0 = [] from rfl] at h
  generalize adl l n 20 = r at h ⊢
  simp at h
  simp [f46, f46body, h]
theorem c17 (p i c : List Int) : callW tbl 17 [encS p i c] = some (.bool (decide (p.length ≤ 30 ∧ i.length ≤ 30 ∧ c.length ≤ 30)), []) := by
  rw [call_run tbl (f := 17) (fn := f17) rfl _ rfl]
  by_cases h1 : (p.length : Int) ≤ 30 <;> by_cases h2 : (i.length : Int) ≤ 30 <;> by_cases h3 : (c.length : Int) ≤ 30 <;> simp [f17, f17body, h1, h2, h3] <;> omega
end Go.Proofs.YtlkfejigeeddaaaDoor
