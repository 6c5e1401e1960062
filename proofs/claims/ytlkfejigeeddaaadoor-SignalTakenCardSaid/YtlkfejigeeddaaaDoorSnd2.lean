/- Signals: Send and Next, on both sides. No condition. -/
import Derived.Test.YtlkfejigeeddaaaDoorSnd
namespace Go.Proofs.YtlkfejigeeddaaaDoor
open Go.PI
set_option maxRecDepth 100000
set_option maxHeartbeats 8000000
set_option linter.unusedSimpArgs false
@[simp] theorem take_len_im (l : List Int) (T : List AV) : (im l ++ T).take l.length = im l := by rw [List.take_append_of_le_length (by simp)]; simp
abbrev tail22 : IC := (f22r8.seq (.cond (.t 33) f22r9 .skip)).seq (f22r10.seq .ret)
theorem t22 (p1 i c : List Int) (lp : p1.length ≤ 1000) (li : i.length ≤ 1000) (n : Int) (T1 : List AV) (v1 : AO) (hv1 : v1 = .box 30 3 (.agg [.e0, .e0, .e0])) (Z : List AO) (e : Env) (e1 : e.get 1 = .int .i64 n) (e2 : e.get 2 = .bptr 0 0) (e4 : e.get 4 = .bptr 1 0) :
    run tbl (.cl [.cell 4 true 3]) [] tail22 e (.box 30 3 (.agg [.ref 2 0 0 p1.length, .ref 3 0 0 i.length, .ref 4 0 0 c.length]) :: v1 :: .row 3 1 0 (im p1 ++ T1) :: .row 3 1 0 (im i) :: .row 3 1 0 (im c) :: Z) = outS (if n = 18 ∨ n ∉ i then insS p1 n else p1) i c := by
  subst hv1
  obtain ⟨g', T', Z', h45⟩ := cv45 p1 (by omega) n [.box 30 3 (.agg [.ref 2 0 0 p1.length, .ref 3 0 0 i.length, .ref 4 0 0 c.length]), .box 30 3 (.agg [.e0, .e0, .e0])] (.row 3 1 0 (im i) :: .row 3 1 0 (im c) :: Z) 0 T1
  have h39 := c39 i (by omega) n
  by_cases h18 : n = 18
  · subst h18
    rw [if_pos (.inl rfl)]
    generalize insS p1 18 = R at h45 ⊢
    simp at h45
    simp [e1, e2, e4, h45]
  · by_cases hm : n ∈ i
    · rw [if_neg (by simp [h18, hm])]
      simp [hm] at h39
      simp [e1, e2, e4, h18, h39]
    · rw [if_pos (.inr hm)]
      simp [hm] at h39
      generalize insS p1 n = R at h45 ⊢
      simp at h45
      simp [e1, e2, e4, h18, h39, h45]
/-- what is pending behind Send -/
def sp1 (p : List Int) (n : Int) : List Int := if n = 18 then p.filter (fun m => !stp' m) else if stp' n = true then wo p 18 else p
def sndP (p i : List Int) (n : Int) : List Int := if n = 18 ∨ n ∉ i then insS (sp1 p n) n else sp1 p n
theorem sp1_length (p : List Int) (n : Int) : (sp1 p n).length ≤ p.length := by
  unfold sp1
  split
  · exact List.length_filter_le _ _
  · split
    · exact List.length_filter_le _ _
    · exact Nat.le_refl _
theorem c22 {a b d : AV} {p i c : List Int} (lp : p.length ≤ 1000) (li : i.length ≤ 1000) (lc : c.length ≤ 1000) (ha : IsL a p) (hb : IsL b i) (hd : IsL d c) (n : Int) :
    callW tbl 22 [.agg [a, b, d], .int .i64 n] = if kn n = true then outS (sndP p i n) i c else some (.agg [a, b, d], []) := by
  rw [call_run tbl (f := 22) (fn := f22) rfl _ rfl]
  have h40 := c40 lp li lc ha hb hd
  have h35 := c35 n
  have h34 := c34 n
  have hl1 := sp1_length p n
  by_cases hk : kn n = true
  · rw [if_pos hk]
    unfold sndP
    rw [hk] at h35
    have ht := fun T1 Z e a1 a2 a3 => t22 (sp1 p n) i c (by omega) li n T1 _ rfl Z e a1 a2 a3
    obtain ⟨R, hR⟩ : ∃ R, R = outS (if n = 18 ∨ n ∉ i then insS (sp1 p n) n else sp1 p n) i c := ⟨_, rfl⟩
    simp only [← hR] at ht ⊢
    clear hR
    by_cases h18 : n = 18
    · obtain ⟨T1, h44⟩ := cv44 p (by omega) 34 [] stp' [.box 30 3 (.agg [.ref 2 0 0 p.length, .ref 3 0 0 i.length, .ref 4 0 0 c.length]), .box 30 3 (.agg [.e0, .e0, .e0])] [.row 3 1 0 (im i), .row 3 1 0 (im c)] 0 [] (fun m es => cv34 m _)
      have es : p.filter (fun m => !stp' m) = sp1 p n := by unfold sp1; rw [if_pos h18]
      rw [es] at h44
      generalize sp1 p n = q at h44 ht
      subst h18
      simp at h44
      cases ha <;> cases hb <;> cases hd <;> (try simp at h40 h44) <;> simp [-f22r8_run, f22, f22body, h35, h40, h44] <;> rw [← run_seq, ← run_seq] <;> exact ht _ _ _ (by simp) (by simp) (by simp)
    · by_cases hs : stp' n = true
      · obtain ⟨T1, Z1, h41⟩ := cv41 p (by omega) 18 [.box 30 3 (.agg [.ref 2 0 0 p.length, .ref 3 0 0 i.length, .ref 4 0 0 c.length]), .box 30 3 (.agg [.e0, .e0, .e0])] [.row 3 1 0 (im i), .row 3 1 0 (im c)] 0 []
        have es : wo p 18 = sp1 p n := by unfold sp1; rw [if_neg h18, if_pos hs]
        rw [es] at h41
        rw [hs] at h34
        generalize sp1 p n = q at h41 ht
        simp at h41
        cases ha <;> cases hb <;> cases hd <;> (try simp at h40 h41) <;> simp [-f22r8_run, f22, f22body, h35, h40, h34, h18, h41] <;> rw [← run_seq, ← run_seq] <;> exact ht _ _ _ (by simp) (by simp) (by simp)
      · have es : sp1 p n = p := by unfold sp1; rw [if_neg h18, if_neg hs]
        simp at hs
        rw [hs] at h34
        have ht := ht []
        rw [es, List.append_nil] at ht
        cases ha <;> cases hb <;> cases hd <;> (try simp at h40) <;> simp [-f22r8_run, f22, f22body, h35, h40, h34, h18] <;> rw [← run_seq, ← run_seq] <;> exact ht _ _ (by simp) (by simp) (by simp)
  · rw [if_neg hk]
    simp at hk
    rw [hk] at h35
    cases ha <;> cases hb <;> cases hd <;> simp [f22, f22body, h35]
end Go.Proofs.YtlkfejigeeddaaaDoor
