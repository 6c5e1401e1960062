/- SignalIgnored: the law's function. No condition. -/
import Derived.Test.YtlkfejigeeddaaaDoorSet
namespace Go.Proofs.YtlkfejigeeddaaaDoor
open Go.PI
set_option maxRecDepth 100000
set_option maxHeartbeats 8000000
set_option linter.unusedSimpArgs false
theorem mem_wo {l : List Int} {n m : Int} : m ∈ wo l n ↔ m ∈ l ∧ m ≠ n := by simp [wo, List.mem_filter]
theorem not_mem_sp1 {l : List Int} {n : Int} (h : n ∉ l) (m : Int) : n ∉ sp1 l m := by
  unfold sp1
  split
  · exact fun hh => h (List.mem_filter.1 hh).1
  · split
    · exact fun hh => h (mem_wo.1 hh).1
    · exact h
theorem kn_of_df {n : Int} (h : df n ≠ 0 ∨ n = 17) (h18 : n ≠ 18) : kn n = true := by
  rcases h with h | rfl
  · unfold df at h
    split at h
    · rename_i hs; exact (kn_stp n hs).1
    · try rw [if_neg h18] at h
      split at h
      · exact absurd rfl h
      · rename_i hk
        simp only [not_or, Bool.not_eq_false] at hk
        exact hk.2
  · decide
theorem c6 (p i c : List Int) (n how : Int) : callW tbl 6 [encS p i c, .int .i64 n, .int .i64 how] = some (.bool true, []) := by
  rw [call_run tbl (f := 6) (fn := f6) rfl _ rfl]
  have h17 := c17 p i c
  have h15 := c15 n
  by_cases hs : p.length ≤ 30 ∧ i.length ≤ 30 ∧ c.length ≤ 30
  · obtain ⟨l1, l2, l3⟩ := hs
    have h18 := c18 p i c (by omega) (by omega) (by omega)
    simp [l1, l2, l3] at h17
    by_cases hv : vd p i c = 0
    · rw [hv] at h18
      by_cases hd : df n = 0 ∧ n ≠ 17
      · rw [hd.1] at h15
        simp [f6, f6body, h17, h18, h15, hd.2, c10]
      · by_cases n18 : n = 18
        · subst n18
          have : df 18 = 3 := by decide
          rw [this] at h15
          simp [f6, f6body, h17, h18, h15, c10]
        · by_cases n9 : n = 9
          · subst n9
            have : df 9 = 1 := by decide
            rw [this] at h15
            simp [f6, f6body, h17, h18, h15, c10]
          · by_cases n19 : n = 19
            · subst n19
              have : df 19 = 2 := by decide
              rw [this] at h15
              simp [f6, f6body, h17, h18, h15, c10]
            · have hk : kn n = true := kn_of_df (by by_cases e : n = 17; exact .inr e; exact .inl fun e' => hd ⟨e', e⟩) n18
              have hf : fx n = false := (fx_iff n).2 ⟨n9, n19⟩
              have g1 : ¬ (df n = 0 ∧ ¬ n = 17) := hd
              have h25 := c25 (show p.length ≤ 1000 by omega) (show i.length ≤ 1000 by omega) (show c.length ≤ 1000 by omega) (.il p) (.il i) (.il c) n 1
              rw [if_pos ⟨hk, hf, by omega, by omega⟩] at h25
              obtain ⟨k1, k2, k3⟩ := set_lengths p i c n 1
              have mp : n ∉ setP p n 1 := by unfold setP; rw [if_pos ⟨rfl, n18⟩]; exact fun h => (mem_wo.1 h).2 rfl
              have mi : n ∈ setI i n 1 := by unfold setI; rw [if_pos rfl]; exact mem_insS.2 (.inl rfl)
              generalize setP p n 1 = p1 at h25 k1 mp
              generalize setI i n 1 = i1 at h25 k2 mi
              generalize setC c n 1 = d1 at h25 k3
              have h22 := c22 (show p1.length ≤ 1000 by omega) (show i1.length ≤ 1000 by omega) (show d1.length ≤ 1000 by omega) (.il p1) (.il i1) (.il d1) n
              rw [if_pos hk] at h22
              have e1 : sndP p1 i1 n = sp1 p1 n := by unfold sndP; rw [if_neg (by simp [n18, mi])]
              have mp2 := not_mem_sp1 mp n
              have k4 := sp1_length p1 n
              rw [e1] at h22
              generalize sp1 p1 n = p2 at h22 mp2 k4
              have h24 := c24 p2 (by omega) n
              simp [mp2] at h24
              have u25 := c25 (show p2.length ≤ 1000 by omega) (show i1.length ≤ 1000 by omega) (show d1.length ≤ 1000 by omega) (.il p2) (.il i1) (.il d1) n how
              by_cases hh : 0 ≤ how ∧ how ≤ 2
              · rw [if_pos ⟨hk, hf, hh.1, hh.2⟩] at u25
                obtain ⟨k5, k6, k7⟩ := set_lengths p2 i1 d1 n how
                have mp3 : n ∉ setP p2 n how := by unfold setP; split; exact fun h => (mem_wo.1 h).2 rfl; exact mp2
                have mi3 : n ∈ setI i1 n how ↔ how = 1 := by
                  unfold setI
                  split
                  · rename_i e; simp [e, mem_insS]
                  · rename_i e; simp [e]
                generalize setP p2 n how = p3 at u25 k5 mp3
                generalize setI i1 n how = i3 at u25 k6 mi3
                generalize setC d1 n how = d3 at u25 k7
                have v24 := c24 p3 (by omega) n
                simp [mp3] at v24
                have u22 := c22 (show p3.length ≤ 1000 by omega) (show i3.length ≤ 1000 by omega) (show d3.length ≤ 1000 by omega) (.il p3) (.il i3) (.il d3) n
                rw [if_pos hk] at u22
                have k8 := sndP_length p3 i3 n
                have m4 : n ∈ sndP p3 i3 n ↔ how ≠ 1 := by
                  unfold sndP
                  by_cases e : how = 1
                  · rw [if_neg (by simp [n18, mi3.2 e])]
                    exact ⟨fun h => absurd h (not_mem_sp1 mp3 n), fun h => absurd e h⟩
                  · rw [if_pos (.inr fun h => e (mi3.1 h))]
                    exact ⟨fun _ => e, fun _ => mem_insS.2 (.inl rfl)⟩
                generalize sndP p3 i3 n = p4 at u22 k8 m4
                have w24 := c24 p4 (by omega) n
                by_cases e1 : how = 1
                · simp [m4, e1] at w24
                  subst e1
                  by_cases e17 : n = 17
                  · subst e17
                    rw [show df 17 = 0 by decide] at h15
                    simp [f6, f6body, h17, h18, h15, h25, h22, h24, u25, v24, u22, w24, c10]
                  · have g2 : ¬ df n = 0 := fun e => hd ⟨e, e17⟩
                    simp [f6, f6body, h17, h18, h15, g2, n18, n9, n19, h25, h22, h24, u25, v24, u22, w24, c10]
                · simp [m4, e1] at w24
                  obtain ⟨e0, e2⟩ : True ∧ (how = 0 ∨ how = 2) := ⟨trivial, by omega⟩
                  rcases e2 with rfl | rfl
                  all_goals
                    by_cases e17 : n = 17
                    · subst e17
                      rw [show df 17 = 0 by decide] at h15
                      simp [f6, f6body, h17, h18, h15, h25, h22, h24, u25, v24, u22, w24, c10]
                    · have g2 : ¬ df n = 0 := fun e => hd ⟨e, e17⟩
                      simp [f6, f6body, h17, h18, h15, g2, n18, n9, n19, h25, h22, h24, u25, v24, u22, w24, c10]
              · rw [if_neg (fun x => hh ⟨x.2.2.1, x.2.2.2⟩)] at u25
                have u22 := c22 (show p2.length ≤ 1000 by omega) (show i1.length ≤ 1000 by omega) (show d1.length ≤ 1000 by omega) (.il p2) (.il i1) (.il d1) n
                rw [if_pos hk] at u22
                have e4 : sndP p2 i1 n = sp1 p2 n := by unfold sndP; rw [if_neg (by simp [n18, mi])]
                have k8 := sp1_length p2 n
                have m4 := not_mem_sp1 mp2 n
                rw [e4] at u22
                generalize sp1 p2 n = p4 at u22 k8 m4
                have w24 := c24 p4 (by omega) n
                simp [m4] at w24
                have q0 : ¬ how = 0 := by omega
                have q2 : ¬ how = 2 := by omega
                by_cases q1 : 0 ≤ how
                · have q3 : ¬ how ≤ 2 := by omega
                  by_cases e17 : n = 17
                  · subst e17
                    rw [show df 17 = 0 by decide] at h15
                    simp [f6, f6body, h17, h18, h15, h25, h22, h24, u25, u22, w24, q0, q1, q2, q3, c10]
                  · have g2 : ¬ df n = 0 := fun e => hd ⟨e, e17⟩
                    simp [f6, f6body, h17, h18, h15, g2, n18, n9, n19, h25, h22, h24, u25, u22, w24, q0, q1, q2, q3, c10]
                · by_cases e17 : n = 17
                  · subst e17
                    rw [show df 17 = 0 by decide] at h15
                    simp [f6, f6body, h17, h18, h15, h25, h22, h24, u25, u22, w24, q0, q1, q2, c10]
                  · have g2 : ¬ df n = 0 := fun e => hd ⟨e, e17⟩
                    simp [f6, f6body, h17, h18, h15, g2, n18, n9, n19, h25, h22, h24, u25, u22, w24, q0, q1, q2, c10]
    · simp [f6, f6body, h17, h18, hv, c10]
  · rw [decide_eq_false hs] at h17
    simp [f6, f6body, h17, c10]
end Go.Proofs.YtlkfejigeeddaaaDoor
