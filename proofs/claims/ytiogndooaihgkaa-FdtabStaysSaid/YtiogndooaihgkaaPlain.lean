/- Tables of descriptors, in plain terms: valid ones, what Put and Drop make of them. No condition. -/
import Derived.Test.YtiogndooaihgkaaLook
namespace Go.Proofs.Ytiogndooaihgkaa
abbrev OkT (l : List Fd) : Prop := (∀ y ∈ l, chk y = 0) ∧ l.Pairwise (fun a b => a.num < b.num)
theorem vf_all (l : List Fd) : ∀ (k i : Nat), i + k = l.length → vf l k i = 0 → ∀ j, i ≤ j → j < l.length → chk (at0 l j) = 0 ∧ (0 < j → (at0 l (j - 1)).num < (at0 l j).num)
  | 0, i, h, _, j, h1, h2 => by omega
  | k + 1, i, h, hv, j, h1, h2 => by
    rw [vf] at hv
    by_cases hc : chk (at0 l i) = 0
    · rw [if_neg (by simpa using hc)] at hv
      by_cases hn : 0 < i ∧ (at0 l i).num ≤ (at0 l (i - 1)).num
      · rw [if_pos hn] at hv; omega
      · rw [if_neg hn] at hv
        by_cases e : j = i
        · subst e
          exact ⟨hc, fun hp => by
            by_cases hq : (at0 l (j - 1)).num < (at0 l j).num
            · exact hq
            · exact absurd ⟨hp, by omega⟩ hn⟩
        · exact vf_all l k (i + 1) (by omega) hv j (by omega) h2
    · rw [if_pos hc] at hv; exact absurd hv hc
theorem vf_none (l : List Fd) : ∀ (k i : Nat), i + k = l.length → (∀ j, i ≤ j → j < l.length → chk (at0 l j) = 0 ∧ (0 < j → (at0 l (j - 1)).num < (at0 l j).num)) → vf l k i = 0
  | 0, _, _, _ => rfl
  | k + 1, i, h, ha => by
    have h0 := ha i (Nat.le_refl _) (by omega)
    rw [vf, if_neg (by simpa using h0.1), if_neg (fun hn => by have := h0.2 hn.1; omega)]
    exact vf_none l k (i + 1) (by omega) (fun j h1 h2 => ha j (by omega) h2)
theorem ok_of_vf {l : List Fd} (h : vf l l.length 0 = 0) : OkT l := by
  have ha := vf_all l l.length 0 (by omega) h
  refine ⟨fun y hy => ?_, List.pairwise_iff_getElem.2 fun i j hi hj hij => ?_⟩
  · obtain ⟨j, hj, rfl⟩ := List.getElem_of_mem hy
    rw [← at0_eq hj]
    exact (ha j (by omega) hj).1
  · induction j with
    | zero => omega
    | succ j ih =>
      have h1 := (ha (j + 1) (by omega) hj).2 (by omega)
      rw [at0_eq hj, show j + 1 - 1 = j by omega, at0_eq (show j < l.length by omega)] at h1
      by_cases e : i = j
      · subst e; exact h1
      · have := ih (by omega) (by omega); omega
theorem vf_of_ok {l : List Fd} (h : OkT l) : vf l l.length 0 = 0 := by
  refine vf_none l l.length 0 (by omega) fun j _ hj => ⟨by rw [at0_eq hj]; exact h.1 _ (List.getElem_mem hj), fun hp => ?_⟩
  rw [at0_eq hj, at0_eq (show j - 1 < l.length by omega)]
  exact List.pairwise_iff_getElem.1 h.2 _ _ _ _ (by omega)
theorem OkT.tail {y : Fd} {l : List Fd} (h : OkT (y :: l)) : OkT l := ⟨fun u hu => h.1 u (by simp [hu]), (List.pairwise_cons.1 h.2).2⟩
theorem OkT.head {y : Fd} {l : List Fd} (h : OkT (y :: l)) : ∀ b ∈ l, y.num < b.num := (List.pairwise_cons.1 h.2).1
theorem OkT.rng {l : List Fd} (h : OkT l) : ∀ b ∈ l, 0 ≤ b.num ∧ b.num < 32 := fun b hb => by
  have := h.1 b hb
  unfold chk at this
  split at this
  · omega
  · split at this <;> omega
def putL : List Fd → Fd → List Fd
  | [], x => [x]
  | y :: l, x => if y.num < x.num then y :: putL l x else if y.num = x.num then x :: l else x :: y :: l
theorem putL_length (x : Fd) : ∀ l : List Fd, (putL l x).length ≤ l.length + 1
  | [] => by simp [putL]
  | y :: l => by
    have := putL_length x l
    rw [putL]
    split
    · simp; omega
    · split <;> simp
theorem mem_putL {x u : Fd} : ∀ {l : List Fd}, u ∈ putL l x → u = x ∨ u ∈ l
  | [], h => by simpa [putL] using h
  | y :: l, h => by
    rw [putL] at h
    split at h
    · rcases List.mem_cons.1 h with rfl | h
      · exact .inr (by simp)
      · rcases mem_putL h with h | h
        · exact .inl h
        · exact .inr (by simp [h])
    · split at h
      · rcases List.mem_cons.1 h with h | h
        · exact .inl h
        · exact .inr (by simp [h])
      · rcases List.mem_cons.1 h with h | h
        · exact .inl h
        · exact .inr h
theorem ok_putL {x : Fd} (hx : chk x = 0) : ∀ {l : List Fd}, OkT l → OkT (putL l x)
  | [], _ => ⟨by simp [putL, hx], by simp [putL]⟩
  | y :: l, h => by
    refine ⟨fun u hu => (mem_putL hu).elim (fun e => e ▸ hx) (h.1 u), ?_⟩
    have ht := ok_putL hx h.tail
    have hh := h.head
    rw [putL]
    split
    · refine List.pairwise_cons.2 ⟨fun b hb => ?_, ht.2⟩
      rcases mem_putL hb with rfl | hb
      · assumption
      · exact hh b hb
    · split
      · refine List.pairwise_cons.2 ⟨fun b hb => ?_, h.tail.2⟩
        have := hh b hb; omega
      · refine List.pairwise_cons.2 ⟨fun b hb => ?_, h.2⟩
        rcases List.mem_cons.1 hb with rfl | hb
        · omega
        · have := hh b hb; omega
theorem getR_put (x : Fd) (n : Int) : ∀ l : List Fd, getR (putL l x) n = if n = x.num then (x, true) else getR l n
  | [] => by
    rw [putL]
    by_cases e : x.num = n
    · simp [getR, e]
    · simp [getR, e, Ne.symm e]
  | y :: l => by
    have ih := getR_put x n l
    rw [putL]
    split
    · rw [getR, getR, ih]
      by_cases e : n = x.num
      · rw [if_pos e, if_neg (by omega)]
        simp [e]
      · rw [if_neg e, if_neg e]
    · split
      · rw [getR, getR]
        by_cases e : n = x.num
        · rw [if_pos e, if_pos e.symm]
        · rw [if_neg e, if_neg (Ne.symm e), if_neg (by omega)]
      · rw [getR]
        by_cases e : n = x.num
        · rw [if_pos e, if_pos e.symm]
        · rw [if_neg e, if_neg (Ne.symm e)]
theorem getR_some {n : Int} : ∀ {l : List Fd}, (getR l n).2 = true → (getR l n).1 ∈ l ∧ (getR l n).1.num = n
  | [], h => by simp [getR] at h
  | y :: l, h => by
    rw [getR] at h ⊢
    by_cases e : y.num = n
    · rw [if_pos e]; exact ⟨by simp, e⟩
    · rw [if_neg e] at h ⊢
      have := getR_some h
      exact ⟨by simp [this.1], this.2⟩
theorem getR_mem {u : Fd} : ∀ {l : List Fd}, OkT l → u ∈ l → getR l u.num = (u, true)
  | y :: l, h, hu => by
    rw [getR]
    rcases List.mem_cons.1 hu with rfl | hu
    · rw [if_pos rfl]
    · have := h.head u hu
      rw [if_neg (by omega)]
      exact getR_mem h.tail hu
theorem getR_gt {n : Int} : ∀ {l : List Fd}, (∀ b ∈ l, n < b.num) → getR l n = (z, false)
  | [], _ => rfl
  | y :: l, h => by
    have := h y (by simp)
    rw [getR, if_neg (by omega)]
    exact getR_gt fun b hb => h b (by simp [hb])
def gF (l : List Fd) (n : Nat) : List Fd := if (getR l n).2 = true then [(getR l n).1] else []
theorem filter_step (n : Nat) : ∀ {l : List Fd}, OkT l → l.filter (fun y => decide (y.num < ((n + 1 : Nat) : Int))) = l.filter (fun y => decide (y.num < (n : Int))) ++ gF l n
  | [], _ => by simp [gF, getR]
  | y :: l, h => by
    have ih := filter_step n h.tail
    have hh := h.head
    rw [List.filter_cons, List.filter_cons, ih]
    by_cases h1 : y.num < (n : Int)
    · have hg : gF (y :: l) n = gF l n := by unfold gF; simp only [getR, if_neg (show ¬ y.num = (n : Int) by omega)]
      rw [if_pos (by simp; omega), if_pos (by simpa using h1), hg]
      rfl
    · have hn : l.filter (fun y => decide (y.num < (n : Int))) = [] := List.filter_eq_nil_iff.2 fun b hb => by have := hh b hb; simp; omega
      by_cases h2 : y.num = n
      · have hg : gF l n = [] := by unfold gF; rw [getR_gt (fun b hb => by have := hh b hb; omega)]; rfl
        have hg' : gF (y :: l) n = [y] := by unfold gF; simp [getR, h2]
        rw [if_pos (by simp; omega), if_neg (by simpa using h1), hn, hg, hg']
        rfl
      · have hg : gF (y :: l) n = gF l n := by unfold gF; simp only [getR, if_neg h2]
        rw [if_neg (by simp; omega), if_neg (by simpa using h1), hg]
/-- what the reference collects from the numbers below n -/
def prs (l : List Fd) (x : Fd) : Nat → List Fd
  | 0 => []
  | n + 1 => if (n : Int) = x.num then prs l x n ++ [x] else if (getR l n).2 = true then prs l x n ++ [(getR l n).1] else prs l x n
theorem prs_length (l : List Fd) (x : Fd) : ∀ n, (prs l x n).length ≤ n
  | 0 => Nat.le_refl _
  | n + 1 => by
    have := prs_length l x n
    rw [prs]
    split
    · simp; omega
    · split
      · simp; omega
      · omega
theorem prs_eq {l : List Fd} {x : Fd} (hx : chk x = 0) (hl : OkT l) : prs l x 32 = putL l x := by
  have ho := ok_putL hx hl
  have key : ∀ n, prs l x n = (putL l x).filter (fun y => decide (y.num < ((n : Nat) : Int))) := by
    intro n
    induction n with
    | zero =>
      rw [prs, eq_comm, List.filter_eq_nil_iff]
      intro b hb
      have := ho.rng b hb
      simp; omega
    | succ n ih =>
      rw [filter_step n ho, ← ih, prs, gF, getR_put]
      by_cases e : (n : Int) = x.num
      · simp [e]
      · rw [if_neg e, if_neg e]
        split <;> simp
  rw [key, List.filter_eq_self]
  intro b hb
  have := ho.rng b hb
  simp; omega
/-- the table without a number -/
def dl (l : List Fd) (n : Int) : Nat → List Fd
  | 0 => []
  | i + 1 => if (at0 l i).num = n then dl l n i else dl l n i ++ [at0 l i]
theorem dl_length (l : List Fd) (n : Int) : ∀ i, (dl l n i).length ≤ i
  | 0 => Nat.le_refl _
  | i + 1 => by
    have := dl_length l n i
    rw [dl]
    split
    · omega
    · simp; omega
theorem dl_eq (l : List Fd) (n : Int) : ∀ i, i ≤ l.length → dl l n i = (l.take i).filter (fun u => decide (u.num ≠ n))
  | 0, _ => by simp [dl]
  | i + 1, h => by
    rw [dl, dl_eq l n i (by omega), List.take_succ_eq_append_getElem (show i < l.length by omega), List.filter_append, at0_eq (show i < l.length by omega)]
    by_cases e : l[i].num = n
    · simp [e]
    · simp [e]
theorem dl_all (l : List Fd) (n : Int) : dl l n l.length = l.filter (fun u => decide (u.num ≠ n)) := by rw [dl_eq l n _ (Nat.le_refl _), List.take_length]
theorem ok_dl {l : List Fd} (h : OkT l) (n : Int) : OkT (dl l n l.length) := by
  rw [dl_all]
  exact ⟨fun y hy => h.1 y (List.mem_filter.1 hy).1, h.2.sublist List.filter_sublist⟩
theorem dl_put {x : Fd} : ∀ {l : List Fd}, OkT l → (getR l x.num).2 = false → (putL l x).filter (fun u => decide (u.num ≠ x.num)) = l
  | [], _, _ => by simp [putL]
  | y :: l, h, hg => by
    rw [getR] at hg
    by_cases e : y.num = x.num
    · rw [if_pos e] at hg; cases hg
    · rw [if_neg e] at hg
      rw [putL]
      by_cases h1 : y.num < x.num
      · rw [if_pos h1, List.filter_cons, if_pos (by simpa using e), dl_put h.tail hg]
      · have hh : (y :: l).filter (fun u => decide (u.num ≠ x.num)) = y :: l := List.filter_eq_self.2 fun b hb => by
          rcases List.mem_cons.1 hb with rfl | hb
          · simpa using e
          · have := h.head b hb
            simp; omega
        rw [if_neg h1, if_neg e, List.filter_cons, if_neg (by simp), hh]
theorem fr_gt (l : List Fd) (n : Int) : ∀ (k m : Nat), (fr2 l n k m).2 = true → (m : Int) ≤ (fr2 l n k m).1
  | 0, m, h => by simp [fr2] at h
  | k + 1, m, h => by
    rw [fr2] at h ⊢
    by_cases e : n ≤ m ∧ (getR l m).2 = false
    · rw [if_pos e]; simp
    · rw [if_neg e] at h ⊢
      have := fr_gt l n k (m + 1) h
      omega
/-- Free from x's number on gives that number just where there is no such descriptor -/
theorem fr_put (l : List Fd) {x : Fd} (hx : 0 ≤ x.num ∧ x.num < 32) : ((fr2 l x.num 32 0).2 && decide ((fr2 l x.num 32 0).1 = x.num)) = !(getR l x.num).2 := by
  obtain ⟨m, hm⟩ : ∃ m : Nat, x.num = m := ⟨x.num.toNat, by omega⟩
  rw [hm] at hx ⊢
  have e := fr2_skip l m m (32 - m) 0 (by simp)
  rw [show m + (32 - m) = 32 by omega, show 0 + m = m by omega, show 32 - m = (31 - m) + 1 by omega] at e
  rw [show fr2 l m ((31 - m) + 1) m = if (m : Int) ≤ m ∧ (getR l m).2 = false then ((m : Int), true) else fr2 l m (31 - m) (m + 1) from rfl] at e
  rw [e]
  cases hg : (getR l m).2
  · simp
  · rw [if_neg (by simp)]
    have := fr_gt l m (31 - m) (m + 1)
    cases h2 : (fr2 l m (31 - m) (m + 1)).2
    · simp
    · have := this h2
      simp; omega
def kp (l : List Fd) : Nat → List Fd
  | 0 => []
  | i + 1 => if (at0 l i).clo = true then kp l i else kp l i ++ [at0 l i]
def gn (l : List Fd) : Nat → List Int
  | 0 => []
  | i + 1 => if (at0 l i).clo = true then gn l i ++ [(at0 l i).desc] else gn l i
theorem kp_length (l : List Fd) : ∀ i, (kp l i).length ≤ i
  | 0 => Nat.le_refl _
  | i + 1 => by
    have := kp_length l i
    rw [kp]
    split
    · omega
    · simp; omega
theorem gn_length (l : List Fd) : ∀ i, (gn l i).length ≤ i
  | 0 => Nat.le_refl _
  | i + 1 => by
    have := gn_length l i
    rw [gn]
    split
    · simp; omega
    · omega
end Go.Proofs.Ytiogndooaihgkaa
