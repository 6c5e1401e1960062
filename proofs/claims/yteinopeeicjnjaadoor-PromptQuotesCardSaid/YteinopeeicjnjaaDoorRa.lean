/- Prompts: sizes; bytes, words; the names of parameters. No condition. -/
import Derived.Test.YteinopeeicjnjaaDoorQf
namespace Go.Proofs.YteinopeeicjnjaaDoor
open Go.PI
set_option maxRecDepth 100000
set_option maxHeartbeats 8000000
set_option linter.unusedSimpArgs false
/- Valid: that it answers -/
theorem t16 (l : List Vr) (hl : l.length ≤ 1000) : ∀ (k i : Nat), i + k = l.length → ∃ n : Int, run tbl (.cl [.tmp 2]) [.blk 0, .seq (f16r13.seq .ret)] (.loop [0, 3] f16b12) [(0, pV l), (3, .int .i64 i)] [] = some (.int .i64 n, [])
  | 0, i, h => by
    rw [run_loopD _ _ f16b12_eq]
    exact ⟨0, by simp [show ¬ i < l.length by omega]⟩
  | k + 1, i, h => by
    have hi : i < l.length := by omega
    obtain ⟨n, ih⟩ := t16 l hl k (i + 1) (by omega)
    simp only [Int.natCast_succ] at ih
    rw [run_loopD _ _ f16b12_eq]
    have h27 := c27 l[i].nm
    cases hn : nmB l[i].nm
    · rw [hn] at h27
      exact ⟨10, by simp [hi, h27]⟩
    · rw [hn] at h27
      by_cases h2 : (4096 : Int) < l[i].vl.length
      · exact ⟨3, by simp [hi, h27, h2]⟩
      · have hw := wrapS i (by omega)
        cases h3 : l[i].st
        · by_cases h4 : l[i].vl = []
          · cases i with
            | zero =>
              simp at ih
              exact ⟨n, by simp [hi, h27, h2, h3, h4, ih]⟩
            | succ i =>
              simp only [Int.natCast_succ] at ih hw ⊢
              have n1 : (i : Int) + 1 < l.length := by omega
              have n2 : (0 : Int) ≤ (i : Int) + 1 := by omega
              have n3 : (0 : Int) < (i : Int) + 1 := by omega
              have n4 := wrap64 (i : Int) (by omega) (by omega)
              have n5 : i < l.length := by omega
              cases h5 : (!Op.bytesLess l[i].nm l[i + 1].nm)
              · exact ⟨n, by simp at h5; simp [hi, h27, h2, h3, h4, n1, n2, n3, n4, n5, h5, hw, ih]⟩
              · exact ⟨1, by simp at h5; simp [hi, h27, h2, h3, h4, n1, n2, n3, n4, n5, h5]⟩
          · exact ⟨1, by simp [hi, h27, h2, h3, h4]⟩
        · cases i with
          | zero =>
            simp at ih
            exact ⟨n, by simp [hi, h27, h2, h3, ih]⟩
          | succ i =>
            simp only [Int.natCast_succ] at ih hw ⊢
            have n1 : (i : Int) + 1 < l.length := by omega
            have n2 : (0 : Int) ≤ (i : Int) + 1 := by omega
            have n3 : (0 : Int) < (i : Int) + 1 := by omega
            have n4 := wrap64 (i : Int) (by omega) (by omega)
            have n5 : i < l.length := by omega
            cases h5 : (!Op.bytesLess l[i].nm l[i + 1].nm)
            · exact ⟨n, by simp at h5; simp [hi, h27, h2, h3, n1, n2, n3, n4, n5, h5, hw, ih]⟩
            · exact ⟨1, by simp at h5; simp [hi, h27, h2, h3, n1, n2, n3, n4, n5, h5]⟩
theorem c16 (l : List Vr) (hl : l.length ≤ 20) : ∃ n : Int, callW tbl 16 [pV l] = some (.int .i64 n, []) := by
  rw [call_run tbl (f := 16) (fn := f16) rfl _ rfl]
  obtain ⟨n, h⟩ := t16 l (by omega) l.length 0 (by omega)
  have h128 : ¬ (128 : Int) < (l.length : Int) := by omega
  simp at h
  exact ⟨n, by simp [f16, f16body, h128, h]⟩
end Go.Proofs.YteinopeeicjnjaaDoor
