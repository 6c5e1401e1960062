/- Patterns, the plain law, second part: the table D and the machine's states T. No program, no condition. -/
import Derived.Test.YtmlmijmnekdkpaaDoorWa
namespace Go.Proofs.YtmlmijmnekdkpaaDoor
set_option maxRecDepth 100000
set_option linter.unusedSimpArgs false
section
variable {α : Type} [Inhabited α] (star : α → Bool) (tk : α → UInt8 → Bool)
/-- the first i items match the first k bytes -/
def D (p : List α) (s : List UInt8) : Nat → Nat → Bool
  | 0, 0 => true
  | 0, _ + 1 => false
  | i + 1, 0 => star (p.getD i default) && D p s i 0
  | i + 1, k + 1 => if star (p.getD i default) = true then D p s i (k + 1) || D p s (i + 1) k else D p s i k && tk (p.getD i default) (s.getD k 0)
variable {star tk}
theorem take_snoc {β : Type} [Inhabited β] {l : List β} {i : Nat} (h : i < l.length) (d : β) : l.take (i + 1) = l.take i ++ [l.getD i d] := by
  rw [List.take_succ_eq_append_getElem h, List.getD_eq_getElem?_getD, List.getElem?_eq_getElem h]; rfl
theorem D_mat {p : List α} {s : List UInt8} : ∀ (i k : Nat), i ≤ p.length → k ≤ s.length → (D star tk p s i k = true ↔ Mat star tk (p.take i) (s.take k))
  | 0, 0, _, _ => by simp [D]; exact .nil
  | 0, k + 1, _, hk => by
    rw [D, List.take_zero, take_snoc (by omega) 0]
    constructor
    · intro h; cases h
    · intro h
      generalize hq : s.take k ++ [s.getD k 0] = q at h
      cases h
      simp at hq
  | i + 1, 0, hi, hk => by
    have ih := D_mat (p := p) (s := s) i 0 (by omega) hk
    rw [List.take_zero] at ih ⊢
    rw [D, take_snoc (by omega) default, Bool.and_eq_true, ih]
    constructor
    · rintro ⟨a, b⟩
      exact b.snoc_star a
    · intro h
      rcases h.inv with ⟨a, b | ⟨t, b, e, _⟩⟩ | ⟨_, t, b, e, _⟩
      · exact ⟨a, b⟩
      · simp at e
      · simp at e
  | i + 1, k + 1, hi, hk => by
    have ih1 := D_mat (p := p) (s := s) i (k + 1) (by omega) hk
    have ih2 := D_mat (p := p) (s := s) (i + 1) k hi (by omega)
    have ih3 := D_mat (p := p) (s := s) i k (by omega) (by omega)
    rw [D]
    rw [take_snoc (l := p) (by omega) default] at ih2 ⊢
    rw [take_snoc (l := s) (i := k) (by omega) 0] at ih1 ⊢
    generalize p.getD i default = x at ih2 ⊢
    generalize s.getD k 0 = c at ih1 ⊢
    by_cases hx : star x = true
    · rw [if_pos hx, Bool.or_eq_true, ih1, ih2]
      constructor
      · rintro (h | h)
        · exact h.snoc_star hx
        · exact h.snoc_more hx
      · intro h
        rcases h.inv with ⟨_, b | ⟨t, b, e, h2⟩⟩ | ⟨a, _⟩
        · exact .inl b
        · obtain ⟨rfl, -⟩ := List.append_inj' e rfl
          exact .inr h2
        · rw [hx] at a; cases a
    · rw [if_neg hx, Bool.and_eq_true, ih3]
      have hx' : star x = false := by simpa using hx
      constructor
      · rintro ⟨a, b⟩
        exact a.snoc_one hx' b
      · intro h
        rcases h.inv with ⟨a, _⟩ | ⟨_, t, b, e, hb, h2⟩
        · exact absurd a hx
        · obtain ⟨rfl, e2⟩ := List.append_inj' e rfl
          obtain rfl : c = b := by simpa using e2
          exact ⟨h2, hb⟩
/-- the states of the machine -/
def T (star : α → Bool) (tk : α → UInt8 → Bool) (p : List α) (s : List UInt8) (i k : Nat) : Bool := if i < p.length ∧ star (p.getD i default) = true then D star tk p s (i + 1) k else D star tk p s i k
theorem T_last (p : List α) (s : List UInt8) (k : Nat) : T star tk p s p.length k = D star tk p s p.length k := by
  unfold T; rw [if_neg (by omega)]
theorem T_zero (p : List α) (s : List UInt8) : T star tk p s 0 0 = true := by
  unfold T
  split
  · rename_i h; simp only [D, h.2, Bool.and_true]
  · simp only [D]
abbrev st (star : α → Bool) (p : List α) (i : Nat) : Bool := decide (i < p.length) && star (p.getD i default)
theorem T_of_star {p : List α} {s : List UInt8} {i k : Nat} (h : st star p i = true) : T star tk p s i k = D star tk p s (i + 1) k := by
  unfold T; rw [if_pos (by simpa using h)]
theorem T_of_not {p : List α} {s : List UInt8} {i k : Nat} (h : st star p i = false) : T star tk p s i k = D star tk p s i k := by
  unfold T; rw [if_neg (by simpa using h)]
theorem T_spread (p : List α) (s : List UInt8) (i : Nat) (hi : i < p.length) : T star tk p s (i + 1) 0 = (T star tk p s i 0 && star (p.getD i default)) := by
  have h1 : T star tk p s (i + 1) 0 = D star tk p s (i + 1) 0 := by
    cases h : st star p (i + 1)
    · exact T_of_not h
    · rw [T_of_star h, D]
      simp only [st, Bool.and_eq_true] at h
      rw [h.2, Bool.true_and]
  rw [h1, D]
  cases hx : star (p.getD i default)
  · simp
  · rw [T_of_star (by rw [st, hx, decide_eq_true hi]; rfl), D, hx]
    simp
/-- what the state i gets from the one before it -/
def carry (star : α → Bool) (tk : α → UInt8 → Bool) (p : List α) (s : List UInt8) (k : Nat) : Nat → Bool
  | 0 => false
  | j + 1 => if star (p.getD j default) = true then T star tk p s j (k + 1) else T star tk p s j k && tk (p.getD j default) (s.getD k 0)
theorem carry_D (p : List α) (s : List UInt8) (k i : Nat) (hi : i ≤ p.length) : carry star tk p s k i = D star tk p s i (k + 1) := by
  cases i with
  | zero => simp only [carry, D]
  | succ j =>
    simp only [carry]
    cases hx : star (p.getD j default)
    · rw [if_neg (by simp), T_of_not (by rw [st, hx, Bool.and_false]), D, hx, if_neg (by simp)]
    · rw [if_pos rfl, T_of_star (by rw [st, hx, decide_eq_true (by omega)]; rfl)]
theorem T_step (p : List α) (s : List UInt8) (k i : Nat) (hi : i ≤ p.length) : T star tk p s i (k + 1) = ((st star p i && T star tk p s i k) || carry star tk p s k i) := by
  rw [carry_D p s k i hi]
  cases h : st star p i
  · rw [T_of_not h]; simp
  · have h2 := h
    simp only [st, Bool.and_eq_true] at h2
    rw [T_of_star h, T_of_star h, D, if_pos h2.2, Bool.true_and, Bool.or_comm]
/-- no state: none later -/
theorem T_dead {p : List α} {s : List UInt8} {k : Nat} (h : ∀ i ≤ p.length, T star tk p s i k = false) : ∀ i ≤ p.length, T star tk p s i (k + 1) = false := by
  intro i
  induction i with
  | zero => intro hi; rw [T_step _ _ _ _ hi, h 0 hi]; simp [carry]
  | succ j ih =>
    intro hi
    rw [T_step _ _ _ _ hi, h _ hi]
    simp only [carry, h j (by omega), ih (by omega)]
    simp
theorem T_dead' {p : List α} {s : List UInt8} {k : Nat} (h : ∀ i ≤ p.length, T star tk p s i k = false) : ∀ m, ∀ i ≤ p.length, T star tk p s i (k + m) = false
  | 0 => h
  | m + 1 => T_dead (T_dead' h m)
end
end Go.Proofs.YtmlmijmnekdkpaaDoor
