/- SignalSends: the law's function. No condition. -/
import Derived.Test.YtlkfejigeeddaaaDoorNxt
namespace Go.Proofs.YtlkfejigeeddaaaDoor
open Go.PI
set_option maxRecDepth 100000
set_option maxHeartbeats 8000000
set_option linter.unusedSimpArgs false
theorem bad1_no {i c : List Int} : ∀ (k n : Nat), bad1 i c k n = false → ∀ m : Nat, n ≤ m → m < n + k → ¬ (((m : Int) = 9 ∨ (m : Int) = 19) ∧ ((m : Int) ∈ i ∨ (m : Int) ∈ c) ∨ (m : Int) ∈ i ∧ (m : Int) ∈ c)
  | 0, n, _, m, h1, h2 => by omega
  | k + 1, n, h, m, h1, h2 => by
    rw [bad1] at h
    split at h
    · cases h
    · rename_i hc
      by_cases e : m = n
      · subst e; exact hc
      · exact bad1_no k (n + 1) h m (by omega) (by omega)
theorem bad1_yes {i c : List Int} : ∀ (k n : Nat), (∀ m : Nat, n ≤ m → m < n + k → ¬ (((m : Int) = 9 ∨ (m : Int) = 19) ∧ ((m : Int) ∈ i ∨ (m : Int) ∈ c) ∨ (m : Int) ∈ i ∧ (m : Int) ∈ c)) → bad1 i c k n = false
  | 0, _, _ => rfl
  | k + 1, n, h => by
    rw [bad1, if_neg (h n (Nat.le_refl _) (by omega))]
    exact bad1_yes k (n + 1) (fun m h1 h2 => h m (by omega) (by omega))
theorem bad2_no {p i : List Int} : ∀ (k n : Nat), bad2 p i k n = false → ∀ m : Nat, n ≤ m → m < n + k → ¬ (((m : Int) ≠ 18 ∧ (m : Int) ∈ p ∧ (m : Int) ∈ i) ∨ (stp' m = true ∧ (m : Int) ∈ p ∧ (18 : Int) ∈ p))
  | 0, n, _, m, h1, h2 => by omega
  | k + 1, n, h, m, h1, h2 => by
    rw [bad2] at h
    split at h
    · cases h
    · rename_i hc
      by_cases e : m = n
      · subst e; exact hc
      · exact bad2_no k (n + 1) h m (by omega) (by omega)
theorem bad2_yes {p i : List Int} : ∀ (k n : Nat), (∀ m : Nat, n ≤ m → m < n + k → ¬ (((m : Int) ≠ 18 ∧ (m : Int) ∈ p ∧ (m : Int) ∈ i) ∨ (stp' m = true ∧ (m : Int) ∈ p ∧ (18 : Int) ∈ p))) → bad2 p i k n = false
  | 0, _, _ => rfl
  | k + 1, n, h => by
    rw [bad2, if_neg (h n (Nat.le_refl _) (by omega))]
    exact bad2_yes k (n + 1) (fun m h1 h2 => h m (by omega) (by omega))
theorem ok_of_vd {p i c : List Int} (h : vd p i c = 0) : OkS p i c := by
  unfold vd at h
  split at h
  · cases h
  · rename_i h0
    split at h
    · cases h
    · rename_i h1
      split at h
      · cases h
      · rename_i h2
        simp only [not_or, Bool.not_eq_false] at h0
        simp only [Bool.not_eq_true] at h1 h2
        have ap := (lsf_iff p).1 h0.1
        have ai := (lsf_iff i).1 h0.2.1
        have ac := (lsf_iff c).1 h0.2.2
        have n1 := bad1_no 20 1 h1
        have n2 := bad2_no 20 1 h2
        have k9 := n1 9 (by omega) (by omega)
        have k19 := n1 19 (by omega) (by omega)
        simp at k9 k19
        refine ⟨ap, ai, ac, ⟨k9.1.1, k19.1.1⟩, ⟨k9.1.2, k19.1.2⟩, fun n hn hc => ?_, fun n hn h18 hi => ?_, fun h18 n hn => ?_⟩
        · have := kn_range (ai.1 n hn)
          obtain ⟨m, rfl⟩ : ∃ m : Nat, n = m := ⟨n.toNat, by omega⟩
          exact n1 m (by omega) (by omega) (.inr ⟨hn, hc⟩)
        · have := kn_range (ap.1 n hn)
          obtain ⟨m, rfl⟩ : ∃ m : Nat, n = m := ⟨n.toNat, by omega⟩
          exact n2 m (by omega) (by omega) (.inl ⟨h18, hn, hi⟩)
        · have := kn_range (ap.1 n hn)
          obtain ⟨m, rfl⟩ : ∃ m : Nat, n = m := ⟨n.toNat, by omega⟩
          cases hs : stp' m
          · rfl
          · exact absurd (.inr ⟨hs, hn, h18⟩) (n2 m (by omega) (by omega))
theorem vd_of_ok {p i c : List Int} (h : OkS p i c) : vd p i c = 0 := by
  unfold vd
  rw [if_neg (by simp [(lsf_iff p).2 h.ap, (lsf_iff i).2 h.ai, (lsf_iff c).2 h.ac]), if_neg, if_neg]
  · rw [Bool.not_eq_true]
    refine bad2_yes 20 1 fun m _ _ hh => ?_
    rcases hh with ⟨a, b, d⟩ | ⟨a, b, d⟩
    · exact h.pi _ b a d
    · have := h.ps d _ b
      rw [a] at this
      cases this
  · rw [Bool.not_eq_true]
    refine bad1_yes 20 1 fun m _ _ hh => ?_
    rcases hh with ⟨a, b⟩ | ⟨a, b⟩
    · rcases a with a | a
      · rw [a] at b; exact b.elim h.fi.1 h.fc.1
      · rw [a] at b; exact b.elim h.fi.2 h.fc.2
    · exact h.ic _ a b
theorem insS_length (n : Int) : ∀ l : List Int, (insS l n).length ≤ l.length + 1
  | [] => by simp [insS]
  | y :: l => by
    have := insS_length n l
    rw [insS]
    split
    · simp; omega
    · split <;> simp
theorem sndP_length (p i : List Int) (n : Int) : (sndP p i n).length ≤ p.length + 1 := by
  have := sp1_length p n
  have := insS_length n (sp1 p n)
  unfold sndP
  split <;> omega
theorem c4 (p i c : List Int) (n : Int) : callW tbl 4 [encS p i c, .int .i64 n] = some (.bool true, []) := by
  rw [call_run tbl (f := 4) (fn := f4) rfl _ rfl]
  have h17 := c17 p i c
  by_cases hs : p.length ≤ 30 ∧ i.length ≤ 30 ∧ c.length ≤ 30
  · obtain ⟨l1, l2, l3⟩ := hs
    have h18 := c18 p i c (by omega) (by omega) (by omega)
    simp [l1, l2, l3] at h17
    by_cases hv : vd p i c = 0
    · have ok := ok_of_vd hv
      rw [hv] at h18
      have h20 := c20 (i := i) ok.ap (show c.length ≤ 1000 by omega)
      have h22 := c22 (show p.length ≤ 1000 by omega) (show i.length ≤ 1000 by omega) (show c.length ≤ 1000 by omega) (.il p) (.il i) (.il c) n
      have h23 := c23 (c := c) ok.ap (show i.length ≤ 1000 by omega) n
      have ls := sndP_length p i n
      have lw := wo_length p (nx p)
      have s0 := c21 (show p.length ≤ 1000000 by omega) (show i.length ≤ 1000000 by omega) (show c.length ≤ 1000000 by omega) (.il p) (.il i) (.il c) (.il p) (.il i) (.il c)
      have s1 := c21 (show (sndP p i n).length ≤ 1000000 by omega) (show i.length ≤ 1000000 by omega) (show c.length ≤ 1000000 by omega) (.il (sndP p i n)) (.il i) (.il c) (.il (sndP p i n)) (.il i) (.il c)
      have s2 := c21 (show (wo p (nx p)).length ≤ 1000000 by omega) (show i.length ≤ 1000000 by omega) (show c.length ≤ 1000000 by omega) (.il (wo p (nx p))) (.il i) (.il c) (.il (wo p (nx p))) (.il i) (.il c)
      have hsp : kn n = true → ¬ (n = 18 ∨ stp' n = true ∨ n ∉ i) → sndP p i n = p := by
        intro _ hh
        simp only [not_or] at hh
        unfold sndP sp1
        rw [if_neg (by simp [hh.1, hh.2.2]), if_neg hh.1, if_neg hh.2.1]
      by_cases hne : p = []
      · have h19 := c19e (.il i) (.il c) (.il [])
        rw [if_pos hne] at h20
        rw [← hne] at h19
        by_cases hk : kn n = true
        · rw [if_pos hk] at h22
          by_cases hc : n = 18 ∨ stp' n = true ∨ n ∉ i
          · rw [if_pos ⟨hk, hc⟩] at h23
            generalize sndP p i n = q at h22 h23 s1
            simp [f4, f4body, h17, h18, h19, h20, h22, h23, s0, s1, c10]
          · rw [if_neg (fun x => hc x.2)] at h23
            rw [hsp hk hc] at h22
            simp [f4, f4body, h17, h18, h19, h20, h22, h23, s0, c10]
        · rw [if_neg hk] at h22
          rw [if_neg (fun x => hk x.1)] at h23
          simp [f4, f4body, h17, h18, h19, h20, h22, h23, s0, c10]
      · have h19 := c19 ok.ap hne (show i.length ≤ 1000 by omega) (show c.length ≤ 1000 by omega) (.il i) (.il c)
        rw [if_neg hne] at h20
        generalize wo p (nx p) = r at h19 h20 s2
        generalize eff c (nx p) = e at h19 h20
        generalize nx p = m at h19 h20
        by_cases hk : kn n = true
        · rw [if_pos hk] at h22
          by_cases hc : n = 18 ∨ stp' n = true ∨ n ∉ i
          · rw [if_pos ⟨hk, hc⟩] at h23
            generalize sndP p i n = q at h22 h23 s1
            simp [f4, f4body, h17, h18, h19, h20, h22, h23, s1, s2, c10]
          · rw [if_neg (fun x => hc x.2)] at h23
            rw [hsp hk hc] at h22
            simp [f4, f4body, h17, h18, h19, h20, h22, h23, s0, s2, c10]
        · rw [if_neg hk] at h22
          rw [if_neg (fun x => hk x.1)] at h23
          simp [f4, f4body, h17, h18, h19, h20, h22, h23, s0, s2, c10]
    · simp [f4, f4body, h17, h18, hv, c10]
  · rw [decide_eq_false hs] at h17
    simp [f4, f4body, h17, c10]
end Go.Proofs.YtlkfejigeeddaaaDoor
