/- Parameters: the reference: Value. No condition. -/
import Derived.Test.YteinopeeicjnjaaDoorQe
namespace Go.Proofs.YteinopeeicjnjaaDoor
open Go.PI
set_option maxRecDepth 100000
set_option maxHeartbeats 8000000
set_option linter.unusedSimpArgs false
theorem nm_dg {n : List UInt8} (h : nmB n = true) : dgV n = none ∧ spB n = false := by
  cases n with
  | nil => simp [nmB, nmH] at h
  | cons b r =>
    have ho : okf b = true := by
      simp only [nmB, nmH, Bool.and_eq_true] at h
      exact h.2.1
    have hd : dgB b.toNat = false := by
      have ho2 := ho
      rw [okf_eq, Bool.and_eq_true] at ho2
      simpa using ho2.2
    have hb : b ≠ 48 := by rintro rfl; revert hd; decide
    refine ⟨?_, ?_⟩
    · unfold dgV
      rw [if_neg (by simp [hb]), if_neg (by simp [hb]), dgT, if_neg (by simp [hd])]
    · rw [Bool.eq_false_iff]
      intro hs
      obtain ⟨c, hc, e⟩ := sp_iff.1 hs
      have e1 : b = c := by simp at e; exact e.1
      subst e1
      simp only [List.mem_cons, List.not_mem_nil, or_false] at hc
      rcases hc with rfl | rfl | rfl | rfl | rfl | rfl | rfl | rfl <;> revert ho <;> decide
theorem c26 (e : En) (he : EnOk e) (n : List UInt8) : callW tbl 26 [encE e, .str n] = pO (vaV e n) := by
  have hp := he.p
  have hv := he.v
  have h26 := c43 n
  have h27 := c27 n
  cases e1 : nmB n
  · rw [e1] at h27
    cases e2 : spB n
    · have hne : ∀ c ∈ spL, ¬ n = [c] := fun c hc hh => by
        have : spB n = true := sp_iff.2 ⟨c, hc, hh⟩
        rw [e2] at this; cases this
      have n0 := hne 64 (by decide)
      have n1 := hne 42 (by decide)
      have n2 := hne 35 (by decide)
      have n3 := hne 63 (by decide)
      have n4 := hne 45 (by decide)
      have n5 := hne 36 (by decide)
      have n6 := hne 33 (by decide)
      have n7 := hne 48 (by decide)
      rw [call_run tbl (f := 26) (fn := f26) rfl _ rfl]
      unfold vaV
      rw [e2, if_neg (by simp)]
      unfold psV at h26
      cases e3 : dgV n with
      | none =>
        rw [e3] at h26
        simp at h26
        simp [f26, f26body, h26, h27, e1, n0, n1, n2, n3, n4, n5, n6, n7]
      | some k =>
        rw [e3] at h26
        simp only [Option.getD_some] at h26
        by_cases hk : k < 1
        · obtain rfl : k = 0 := by omega
          simp at h26
          simp [f26, f26body, h26, h27, e1, n0, n1, n2, n3, n4, n5, n6, n7]
        · by_cases hk2 : e.params.length < k
          · simp [f26, f26body, h26, h27, e1, n0, n1, n2, n3, n4, n5, n6, n7, hk, hk2, show (0 : Int) < k by omega, show 0 < k by omega, show ¬ k ≤ e.params.length by omega]
          · obtain ⟨j, rfl⟩ : ∃ j, k = j + 1 := ⟨k - 1, by omega⟩
            have hj : j < e.params.length := by omega
            have wj := wrap64 (j : Int) (by omega) (by omega)
            rw [Int.natCast_succ] at h26
            simp [f26, f26body, h26, h27, e1, hk, hk2, show (0 : Int) < (j : Int) + 1 by omega, show (j : Int) + 1 ≤ e.params.length by omega, hj, wj]
    · obtain ⟨c, hc, rfl⟩ := sp_iff.1 e2
      have h26' : psV [c] = 0 := by
        simp only [List.mem_cons, List.not_mem_nil, or_false] at hc
        rcases hc with rfl | rfl | rfl | rfl | rfl | rfl | rfl | rfl <;> decide
      rw [h26'] at h26
      simp at h26
      have d1 := c47 e.params [32] (by omega) he.j1
      have d2 := c47 e.params (sepV e.vars) (by omega) he.j2
      have d3 := c48 (l := e.vars) (by omega)
      have d4 := c45 e.params.length ⟨by omega, by omega⟩
      have d5 := c45 e.stat he.st
      have d6 := c46 e.opts
      have d7 := c45 e.pid he.pd
      have d8 := c45 e.last he.la
      rw [call_run tbl (f := 26) (fn := f26) rfl _ rfl]
      unfold vaV
      rw [e2, if_pos rfl]
      simp only [List.head?_cons, Option.getD_some]
      unfold spV
      simp only [List.mem_cons, List.not_mem_nil, or_false] at hc
      rcases hc with rfl | rfl | rfl | rfl | rfl | rfl | rfl | rfl
      · simp [f26, f26body, h26, h27, d1]
      · simp [f26, f26body, h26, h27, d2, d3]
      · simp [f26, f26body, h26, h27, d4]
      · simp [f26, f26body, h26, h27, d5]
      · simp [f26, f26body, h26, h27, d6]
      · simp [f26, f26body, h26, h27, d7]
      · by_cases h0 : e.last = 0
        · simp [f26, f26body, h26, h27, eq_true h0]
        · simp [f26, f26body, h26, h27, d8, h0]
      · simp [f26, f26body, h26, h27]
  · rw [e1] at h27
    obtain ⟨e3, e2⟩ := nm_dg e1
    have h28 := c44 (l := e.vars) (by omega) n
    rw [call_run tbl (f := 26) (fn := f26) rfl _ rfl]
    unfold vaV
    rw [e2, e3, if_neg (by simp)]
    simp only
    rw [e1, if_pos rfl]
    unfold vrO
    cases hg : gtV e.vars n with
    | none =>
      rw [hg] at h28
      simp at h28
      simp [f26, f26body, h26, h27, h28]
    | some v =>
      rw [hg] at h28
      simp at h28
      cases hs : v.st
      · simp [f26, f26body, h26, h27, h28, hs]
      · simp [f26, f26body, h26, h27, h28, hs]
end Go.Proofs.YteinopeeicjnjaaDoor
