/- Signals in plain terms: ascending lists of known signals. No condition. -/
import Derived.Test.YtlkfejigeeddaaaDoorLst
namespace Go.Proofs.YtlkfejigeeddaaaDoor
set_option maxRecDepth 100000
theorem kn_range {n : Int} (h : kn n = true) : 1 ≤ n ∧ n ≤ 20 := by
  by_cases h0 : n < 0 ∨ 21 ≤ n
  · simp [kn, nm_out n h0] at h
  · have : n ≠ 0 := fun e => by subst e; simp [kn, nm] at h
    omega
abbrev Asc (l : List Int) : Prop := (∀ n ∈ l, kn n = true) ∧ l.Pairwise (· < ·)
theorem lsf_all (l : List Int) : ∀ (k i : Nat), i + k = l.length → lsf l k i = true → ∀ j, i ≤ j → j < l.length → kn (at0 l j) = true ∧ (0 < j → at0 l (j - 1) < at0 l j)
  | 0, i, h, _, j, h1, h2 => by omega
  | k + 1, i, h, hv, j, h1, h2 => by
    rw [lsf] at hv
    split at hv
    · cases hv
    · rename_i hc
      by_cases e : j = i
      · subst e
        refine ⟨?_, fun hp => ?_⟩
        · simp only [kn, decide_eq_true_eq]; exact fun hh => hc (.inl hh)
        · by_cases hq : at0 l (j - 1) < at0 l j
          · exact hq
          · exact absurd (.inr ⟨hp, by omega⟩) hc
      · exact lsf_all l k (i + 1) (by omega) hv j (by omega) h2
theorem lsf_none (l : List Int) : ∀ (k i : Nat), i + k = l.length → (∀ j, i ≤ j → j < l.length → kn (at0 l j) = true ∧ (0 < j → at0 l (j - 1) < at0 l j)) → lsf l k i = true
  | 0, _, _, _ => rfl
  | k + 1, i, h, ha => by
    have h0 := ha i (Nat.le_refl _) (by omega)
    rw [lsf, if_neg]
    · exact lsf_none l k (i + 1) (by omega) (fun j h1 h2 => ha j (by omega) h2)
    · rintro (hh | ⟨hp, hh⟩)
      · have := h0.1
        simp [kn, hh] at this
      · have := h0.2 hp
        omega
theorem lsf_iff (l : List Int) : lsf l l.length 0 = true ↔ Asc l := by
  constructor
  · intro h
    have ha := lsf_all l l.length 0 (by omega) h
    refine ⟨fun y hy => ?_, List.pairwise_iff_getElem.2 fun i j hi hj hij => ?_⟩
    · obtain ⟨j, hj, rfl⟩ := List.getElem_of_mem hy
      rw [← at0_eq hj]
      exact (ha j (by omega) hj).1
    · induction j with
      | zero => omega
      | succ j ih =>
        have h1 := (ha (j + 1) (by omega) hj).2 (by omega)
        rw [at0_eq hj, show j + 1 - 1 = j by omega, at0_eq (show j < l.length by omega)] at h1
        by_cases e : i = j
        · subst e; exact h1
        · have := ih (by omega) (by omega); omega
  · intro h
    refine lsf_none l l.length 0 (by omega) fun j _ hj => ⟨by rw [at0_eq hj]; exact h.1 _ (List.getElem_mem hj), fun hp => ?_⟩
    rw [at0_eq hj, at0_eq (show j - 1 < l.length by omega)]
    exact List.pairwise_iff_getElem.1 h.2 _ _ _ _ (by omega)
theorem dr_eq (l : List Int) (n : Int) : ∀ i, i ≤ l.length → dr l n i = (l.take i).filter (fun u => decide (u ≠ n))
  | 0, _ => by simp [dr]
  | i + 1, h => by
    rw [dr, dr_eq l n i (by omega), List.take_succ_eq_append_getElem (show i < l.length by omega), List.filter_append, at0_eq (show i < l.length by omega)]
    by_cases e : l[i] = n <;> simp [e]
/-- the list without a number -/
abbrev wo (l : List Int) (n : Int) : List Int := l.filter (fun u => decide (u ≠ n))
theorem dr_all (l : List Int) (n : Int) : dr l n l.length = wo l n := by rw [dr_eq l n _ (Nat.le_refl _), List.take_length]
theorem Asc.filter {l : List Int} (h : Asc l) (p : Int → Bool) : Asc (l.filter p) := ⟨fun y hy => h.1 y (List.mem_filter.1 hy).1, h.2.sublist List.filter_sublist⟩
theorem Asc.tail {y : Int} {l : List Int} (h : Asc (y :: l)) : Asc l := ⟨fun u hu => h.1 u (by simp [hu]), (List.pairwise_cons.1 h.2).2⟩
theorem Asc.head {y : Int} {l : List Int} (h : Asc (y :: l)) : ∀ b ∈ l, y < b := (List.pairwise_cons.1 h.2).1
theorem len_le : ∀ (l : List Int) (a : Int), l.Pairwise (· < ·) → (∀ n ∈ l, a ≤ n ∧ n ≤ 20) → l.length ≤ (21 - a).toNat
  | [], _, _, _ => by simp
  | y :: l, a, h, hr => by
    have h1 := hr y (by simp)
    have hh := (List.pairwise_cons.1 h).1
    have ih := len_le l (y + 1) (List.pairwise_cons.1 h).2 (fun n hn => ⟨by have := hh n hn; omega, (hr n (by simp [hn])).2⟩)
    simp only [List.length_cons]
    omega
theorem Asc.length {l : List Int} (h : Asc l) : l.length ≤ 20 := by
  have := len_le l 1 h.2 (fun n hn => kn_range (h.1 n hn))
  omega
/-- sorted insertion, each number once -/
def insS : List Int → Int → List Int
  | [], x => [x]
  | y :: l, x => if y < x then y :: insS l x else if y = x then y :: l else x :: y :: l
theorem mem_insS {x u : Int} : ∀ {l : List Int}, u ∈ insS l x ↔ u = x ∨ u ∈ l
  | [] => by simp [insS]
  | y :: l => by
    rw [insS]
    split
    · rw [List.mem_cons, mem_insS, List.mem_cons]
      constructor
      · rintro (h | h | h)
        · exact .inr (.inl h)
        · exact .inl h
        · exact .inr (.inr h)
      · rintro (h | h | h)
        · exact .inr (.inl h)
        · exact .inl h
        · exact .inr (.inr h)
    · split
      · rename_i e
        subst e
        simp only [List.mem_cons]
        constructor
        · exact .inr
        · rintro (h | h)
          · exact .inl h
          · exact h
      · simp only [List.mem_cons]
theorem asc_insS {x : Int} (hx : kn x = true) : ∀ {l : List Int}, Asc l → Asc (insS l x)
  | [], _ => ⟨by simp [insS, hx], by simp [insS]⟩
  | y :: l, h => by
    refine ⟨fun u hu => (mem_insS.1 hu).elim (fun e => e ▸ hx) (h.1 u), ?_⟩
    have ht := asc_insS hx h.tail
    have hh := h.head
    rw [insS]
    split
    · refine List.pairwise_cons.2 ⟨fun b hb => ?_, ht.2⟩
      rcases mem_insS.1 hb with rfl | hb
      · assumption
      · exact hh b hb
    · split
      · exact h.2
      · refine List.pairwise_cons.2 ⟨fun b hb => ?_, h.2⟩
        rcases List.mem_cons.1 hb with rfl | hb
        · omega
        · have := hh b hb; omega
theorem filter_step (n : Int) : ∀ {l : List Int}, l.Pairwise (· < ·) → l.filter (fun y => decide (y ≤ n + 1)) = l.filter (fun y => decide (y ≤ n)) ++ (if n + 1 ∈ l then [n + 1] else [])
  | [], _ => by simp
  | y :: l, h => by
    have ih := filter_step n (List.pairwise_cons.1 h).2
    have hh := (List.pairwise_cons.1 h).1
    by_cases h1 : y ≤ n
    · rw [List.filter_cons_of_pos (by simp; omega), List.filter_cons_of_pos (by simpa using h1), ih]
      have : (n + 1 ∈ y :: l) ↔ n + 1 ∈ l := by
        rw [List.mem_cons]
        exact ⟨fun hh => hh.elim (fun e => by omega) id, .inr⟩
      by_cases hm : n + 1 ∈ l
      · rw [if_pos hm, if_pos (this.2 hm)]; rfl
      · rw [if_neg hm, if_neg (fun e => hm (this.1 e))]; simp
    · have hn : l.filter (fun y => decide (y ≤ n)) = [] := List.filter_eq_nil_iff.2 fun b hb => by have := hh b hb; simp; omega
      have hm : n + 1 ∉ l := fun hm => by have := hh _ hm; omega
      rw [hn, if_neg hm] at ih
      by_cases h2 : y = n + 1
      · rw [List.filter_cons_of_pos (by simp; omega), List.filter_cons_of_neg (by simpa using h1), ih, hn, if_pos (by simp [h2]), h2]
        rfl
      · rw [List.filter_cons_of_neg (by simp; omega), List.filter_cons_of_neg (by simpa using h1), ih, hn, if_neg (by simp [hm]; omega)]
theorem adl_eq {l : List Int} {n : Int} (hn : kn n = true) (hl : Asc l) : adl l n 20 = insS l n := by
  have ho := asc_insS hn hl
  have key : ∀ k : Nat, adl l n k = (insS l n).filter (fun y => decide (y ≤ (k : Int))) := by
    intro k
    induction k with
    | zero =>
      rw [adl, eq_comm, List.filter_eq_nil_iff]
      intro b hb
      have := kn_range (ho.1 b hb)
      simp; omega
    | succ k ih =>
      have := filter_step (k : Int) ho.2
      rw [Int.natCast_succ, this, ← ih, adl]
      have hm : ((k : Int) + 1 ∈ insS l n) ↔ (((k + 1 : Nat) : Int) = n ∨ ((k + 1 : Nat) : Int) ∈ l) := by rw [mem_insS]; rfl
      by_cases e : (((k + 1 : Nat) : Int) = n ∨ ((k + 1 : Nat) : Int) ∈ l)
      · rw [if_pos e, if_pos (hm.2 e)]; rfl
      · rw [if_neg e, if_neg (fun hh => e (hm.1 hh)), List.append_nil]
  rw [key, List.filter_eq_self]
  intro b hb
  have := kn_range (ho.1 b hb)
  simp; omega
/-- a valid state -/
structure OkS (p i c : List Int) : Prop where
  ap : Asc p
  ai : Asc i
  ac : Asc c
  fi : 9 ∉ i ∧ 19 ∉ i
  fc : 9 ∉ c ∧ 19 ∉ c
  ic : ∀ n ∈ i, n ∉ c
  pi : ∀ n ∈ p, n ≠ 18 → n ∉ i
  ps : 18 ∈ p → ∀ n ∈ p, stp' n = false
end Go.Proofs.YtlkfejigeeddaaaDoor
