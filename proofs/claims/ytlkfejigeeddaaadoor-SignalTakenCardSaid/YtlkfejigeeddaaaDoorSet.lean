/- SignalSets: Set, Fork and Exec on both sides; the law's function. No condition. -/
import Derived.Test.YtlkfejigeeddaaaDoorSends
namespace Go.Proofs.YtlkfejigeeddaaaDoor
open Go.PI
set_option maxRecDepth 100000
set_option maxHeartbeats 8000000
set_option linter.unusedSimpArgs false
abbrev outT (p i c : List Int) : Option (AV × List AO) := some (.tup [.agg [.ref 0 0 0 p.length, .ref 1 0 0 i.length, .ref 2 0 0 c.length], .int .i64 0], [.row 3 1 0 (im p), .row 3 1 0 (im i), .row 3 1 0 (im c)])
def setP (p : List Int) (n how : Int) : List Int := if how = 1 ∧ n ≠ 18 then wo p n else p
def setI (i : List Int) (n how : Int) : List Int := if how = 1 then insS (wo i n) n else wo i n
def setC (c : List Int) (n how : Int) : List Int := if how = 2 then insS (wo c n) n else wo c n
abbrev mayS (n how : Int) : Prop := kn n = true ∧ fx n = false ∧ 0 ≤ how ∧ how ≤ 2
abbrev tail25 : IC := (f25r6.seq (.block 0 (f25r7.seq (.cond (.t 37) (f25r8.seq (f25r9.seq (.cond (.t 45) f25r10 .skip))) (f25r11.seq (.cond (.t 51) f25r12 .skip)))))).seq (f25r13.seq .ret)
theorem t25 (p i1 c1 : List Int) (lp : p.length ≤ 1000) (li : i1.length ≤ 1000) (lc : c1.length ≤ 1000) (n how : Int) (T1 T2 : List AV) (Z : List AO) (e : Env) (e1 : e.get 1 = .int .i64 n) (e2 : e.get 2 = .int .i64 how) (e3 : e.get 3 = .bptr 0 0) (e6 : e.get 6 = .bptr 1 0) :
    run tbl (.cl [.cell 6 true 3, .tmp 7]) [] tail25 e (.box 30 3 (.agg [.ref 2 0 0 p.length, .ref 3 0 0 i1.length, .ref 4 0 0 c1.length]) :: .box 30 3 (.agg [.e0, .e0, .e0]) :: .row 3 1 0 (im p) :: .row 3 1 0 (im i1 ++ T1) :: .row 3 1 0 (im c1 ++ T2) :: Z)
      = outT (if how = 1 ∧ n ≠ 18 then wo p n else p) (if how = 1 then insS i1 n else i1) (if how = 2 then insS c1 n else c1) := by
  by_cases h1 : how = 1
  · subst h1
    obtain ⟨g', T', Z', h45⟩ := cv45 i1 (by omega) n [.box 30 3 (.agg [.ref 2 0 0 p.length, .ref 3 0 0 i1.length, .ref 4 0 0 c1.length]), .box 30 3 (.agg [.e0, .e0, .e0]), .row 3 1 0 (im p)] (.row 3 1 0 (im c1 ++ T2) :: Z) 0 T1
    by_cases h18 : n = 18
    · subst h18
      simp only [ne_eq, not_true_eq_false, and_false, if_false, if_true]
      rw [if_neg (by decide)]
      generalize insS i1 18 = R at h45 ⊢
      simp at h45
      simp [e1, e2, e3, e6, h45]
    · obtain ⟨T3, Z3, h41⟩ := cv41 p (by omega) n [.box 30 3 (.agg [.ref 2 0 0 p.length, .ref 3 g' 0 (insS i1 n).length, .ref 4 0 0 c1.length]), .box 30 3 (.agg [.e0, .e0, .e0])] (.row 3 1 g' (im (insS i1 n) ++ T') :: .row 3 1 0 (im c1 ++ T2) :: (Z ++ Z')) 0 []
      rw [if_pos ⟨rfl, h18⟩, if_pos rfl, if_neg (by decide)]
      generalize insS i1 n = R at h45 h41 ⊢
      generalize wo p n = q at h41 ⊢
      simp at h45 h41
      simp [e1, e2, e3, e6, h45, h18, h41]
  · by_cases h2 : how = 2
    · subst h2
      obtain ⟨g', T', Z', h45⟩ := cv45 c1 (by omega) n [.box 30 3 (.agg [.ref 2 0 0 p.length, .ref 3 0 0 i1.length, .ref 4 0 0 c1.length]), .box 30 3 (.agg [.e0, .e0, .e0]), .row 3 1 0 (im p), .row 3 1 0 (im i1 ++ T1)] Z 0 T2
      rw [if_neg (by omega), if_neg (by decide), if_pos rfl]
      generalize insS c1 n = R at h45 ⊢
      simp at h45
      simp [e1, e2, e3, e6, h45]
    · rw [if_neg (fun x => h1 x.1), if_neg h1, if_neg h2]
      simp [e1, e2, e3, e6, h1, h2]
theorem c25 {a b d : AV} {p i c : List Int} (lp : p.length ≤ 1000) (li : i.length ≤ 1000) (lc : c.length ≤ 1000) (ha : IsL a p) (hb : IsL b i) (hd : IsL d c) (n how : Int) :
    callW tbl 25 [.agg [a, b, d], .int .i64 n, .int .i64 how] = if mayS n how then outT (setP p n how) (setI i n how) (setC c n how) else some (.tup [.agg [a, b, d], .int .i64 1], []) := by
  rw [call_run tbl (f := 25) (fn := f25) rfl _ rfl]
  have h40 := c40 lp li lc ha hb hd
  have h35 := c35 n
  have h47 := c47 n
  by_cases hm : mayS n how
  · rw [if_pos hm]
    obtain ⟨m1, m2, m3, m4⟩ := hm
    rw [m1] at h35
    rw [m2] at h47
    obtain ⟨T1, Z1, h41⟩ := cv41 i (by omega) n [.box 30 3 (.agg [.ref 2 0 0 p.length, .ref 3 0 0 i.length, .ref 4 0 0 c.length]), .box 30 3 (.agg [.e0, .e0, .e0]), .row 3 1 0 (im p)] [.row 3 1 0 (im c)] 0 []
    obtain ⟨T2, Z2, k41⟩ := cv41 c (by omega) n [.box 30 3 (.agg [.ref 2 0 0 p.length, .ref 3 0 0 (wo i n).length, .ref 4 0 0 c.length]), .box 30 3 (.agg [.e0, .e0, .e0]), .row 3 1 0 (im p), .row 3 1 0 (im (wo i n) ++ T1)] Z1 0 []
    have l1 := wo_length i n
    have l2 := wo_length c n
    have ht := fun e a1 a2 a3 a4 => t25 p (wo i n) (wo c n) lp (by omega) (by omega) n how T1 T2 (Z1 ++ Z2) e a1 a2 a3 a4
    unfold setP setI setC
    obtain ⟨R, hR⟩ : ∃ R, R = outT (if how = 1 ∧ n ≠ 18 then wo p n else p) (if how = 1 then insS (wo i n) n else wo i n) (if how = 2 then insS (wo c n) n else wo c n) := ⟨_, rfl⟩
    simp only [← hR] at ht ⊢
    clear hR
    generalize wo i n = q at h41 k41 ht
    generalize wo c n = r at k41 ht
    cases ha <;> cases hb <;> cases hd <;> (try simp at h40 h41 k41) <;> simp [-f25r6_run, f25, f25body, h35, h47, show ¬ how < 0 by omega, show ¬ 2 < how by omega, h40, h41, k41] <;> rw [← run_seq, ← run_seq] <;> exact ht _ (by simp) (by simp) (by simp) (by simp)
  · rw [if_neg hm]
    cases hk : kn n
    · rw [hk] at h35
      cases ha <;> cases hb <;> cases hd <;> simp [f25, f25body, h35]
    · rw [hk] at h35
      cases hf : fx n
      · rw [hf] at h47
        by_cases h0 : how < 0
        · cases ha <;> cases hb <;> cases hd <;> simp [f25, f25body, h35, h47, h0]
        · by_cases h2 : 2 < how
          · cases ha <;> cases hb <;> cases hd <;> simp [f25, f25body, h35, h47, h0, h2]
          · exact absurd ⟨hk, hf, by omega, by omega⟩ hm
      · rw [hf] at h47
        cases ha <;> cases hb <;> cases hd <;> simp [f25, f25body, h35, h47]
/- the reference's Set -/
abbrev outU (p i c : List Int) : Option (AV × List AO) := some (.tup [.agg [il p, .ref 0 0 0 i.length, .ref 1 0 0 c.length], .int .i64 0], [.row 3 1 0 (im i), .row 3 1 0 (im c)])
theorem fx_iff (n : Int) : fx n = false ↔ n ≠ 9 ∧ n ≠ 19 := by
  unfold fx
  by_cases h1 : n = 9 <;> by_cases h2 : n = 19 <;> simp [h1, h2]
theorem c27 {p i c : List Int} (ok : OkS p i c) (n how : Int) :
    callW tbl 27 [encS p i c, .int .i64 n, .int .i64 how] = if mayS n how then (if how = 1 ∧ n ≠ 18 then outT (setP p n how) (setI i n how) (setC c n how) else outU p (setI i n how) (setC c n how)) else some (.tup [encS p i c, .int .i64 1], []) := by
  rw [call_run tbl (f := 27) (fn := f27) rfl _ rfl]
  have h14 := c14 n
  have lp := ok.ap.length
  have li := ok.ai.length
  have lc := ok.ac.length
  by_cases hm : mayS n how
  · rw [if_pos hm]
    obtain ⟨m1, m2, m3, m4⟩ := hm
    obtain ⟨m5, m6⟩ := (fx_iff n).1 m2
    have hn : ¬ nm n = [] := by simpa [kn] using m1
    have d1 := c42' i (by omega) n
    have d2 := c42' c (by omega) n
    have d3 := c42' p (by omega) n
    have a1 : callW tbl 46 [il (wo i n), .int .i64 n] = outI (insS (wo i n) n) := c46' (ok.ai.filter _) m1
    have a2 : callW tbl 46 [il (wo c n), .int .i64 n] = outI (insS (wo c n) n) := c46' (ok.ac.filter _) m1
    unfold setP setI setC
    by_cases h1 : how = 1
    · subst h1
      by_cases h18 : n = 18
      · subst h18
        rw [if_neg (by simp), if_pos rfl, if_neg (by decide)]
        generalize insS (wo i 18) 18 = R at a1 ⊢
        generalize wo i 18 = q at d1 a1
        generalize wo c 18 = r at d2 ⊢
        simp [f27, f27body, h14, hn, d1, d2, a1]
      · rw [if_pos ⟨rfl, h18⟩, if_pos ⟨rfl, h18⟩, if_pos rfl, if_neg (by decide)]
        generalize insS (wo i n) n = R at a1 ⊢
        generalize wo i n = q at d1 a1
        generalize wo c n = r at d2 ⊢
        generalize wo p n = t at d3 ⊢
        simp [f27, f27body, h14, hn, m5, m6, h18, d1, d2, d3, a1]
    · rw [if_neg (fun x => h1 x.1), if_neg h1]
      by_cases h2 : how = 2
      · subst h2
        rw [if_pos rfl]
        generalize insS (wo c n) n = R at a2 ⊢
        generalize wo i n = q at d1 ⊢
        generalize wo c n = r at d2 a2
        simp [f27, f27body, h14, hn, m5, m6, d1, d2, a2]
      · rw [if_neg h2]
        generalize wo i n = q at d1 ⊢
        generalize wo c n = r at d2 ⊢
        simp [f27, f27body, h14, hn, m5, m6, h1, h2, show ¬ how < 0 by omega, show ¬ 2 < how by omega, d1, d2]
  · rw [if_neg hm]
    by_cases hn : nm n = []
    · rw [hn] at h14
      simp [f27, f27body, h14]
    · have hk : kn n = true := by simpa [kn] using hn
      by_cases m5 : n = 9
      · subst m5
        simp [f27, f27body, h14, hn]
      · by_cases m6 : n = 19
        · subst m6
          simp [f27, f27body, h14, hn]
        · by_cases h0 : how < 0
          · simp [f27, f27body, h14, hn, m5, m6, h0]
          · by_cases h2 : 2 < how
            · simp [f27, f27body, h14, hn, m5, m6, h0, h2]
            · exact absurd ⟨hk, (fx_iff n).2 ⟨m5, m6⟩, by omega, by omega⟩ hm
theorem c28 {a b d : AV} {p i c : List Int} (lp : p.length ≤ 1000) (li : i.length ≤ 1000) (lc : c.length ≤ 1000) (ha : IsL a p) (hb : IsL b i) (hd : IsL d c) : callW tbl 28 [.agg [a, b, d]] = some (.agg [.e0, .ref 0 0 0 i.length, .ref 1 0 0 c.length], [.row 3 1 0 (im i), .row 3 1 0 (im c)]) := by
  rw [call_run tbl (f := 28) (fn := f28) rfl _ rfl]
  have h40 := c40 lp li lc ha hb hd
  cases ha <;> cases hb <;> cases hd <;> (try simp at h40) <;> simp [f28, f28body, h40]
theorem c30 {a b d : AV} {p i c : List Int} (lp : p.length ≤ 1000) (li : i.length ≤ 1000) (lc : c.length ≤ 1000) (ha : IsL a p) (hb : IsL b i) (hd : IsL d c) : callW tbl 30 [.agg [a, b, d]] = some (.agg [.ref 0 0 0 p.length, .ref 1 0 0 i.length, .e0], [.row 3 1 0 (im p), .row 3 1 0 (im i)]) := by
  rw [call_run tbl (f := 30) (fn := f30) rfl _ rfl]
  have h40 := c40 lp li lc ha hb hd
  cases ha <;> cases hb <;> cases hd <;> (try simp at h40) <;> simp [f30, f30body, h40]
theorem c29 (p i c : List Int) : callW tbl 29 [encS p i c] = some (.agg [.e0, il i, il c], []) := by
  rw [call_run tbl (f := 29) (fn := f29) rfl _ rfl]
  simp [f29, f29body]
theorem c31 (p i c : List Int) : callW tbl 31 [encS p i c] = some (.agg [il p, il i, .e0], []) := by
  rw [call_run tbl (f := 31) (fn := f31) rfl _ rfl]
  simp [f31, f31body]
theorem set_lengths (p i c : List Int) (n how : Int) : (setP p n how).length ≤ p.length ∧ (setI i n how).length ≤ i.length + 1 ∧ (setC c n how).length ≤ c.length + 1 := by
  have a1 := wo_length p n
  have a2 := wo_length i n
  have a3 := wo_length c n
  have a4 := insS_length n (wo i n)
  have a5 := insS_length n (wo c n)
  unfold setP setI setC
  refine ⟨?_, ?_, ?_⟩ <;> split <;> omega
theorem c8 (p i c : List Int) (n how : Int) : callW tbl 8 [encS p i c, .int .i64 n, .int .i64 how] = some (.bool true, []) := by
  rw [call_run tbl (f := 8) (fn := f8) rfl _ rfl]
  have h17 := c17 p i c
  by_cases hs : p.length ≤ 30 ∧ i.length ≤ 30 ∧ c.length ≤ 30
  · obtain ⟨l1, l2, l3⟩ := hs
    have h18 := c18 p i c (by omega) (by omega) (by omega)
    simp [l1, l2, l3] at h17
    by_cases hv : vd p i c = 0
    · have ok := ok_of_vd hv
      rw [hv] at h18
      have h25 := c25 (show p.length ≤ 1000 by omega) (show i.length ≤ 1000 by omega) (show c.length ≤ 1000 by omega) (.il p) (.il i) (.il c) n how
      have h27 := c27 ok n how
      have h28 := c28 (show p.length ≤ 1000 by omega) (show i.length ≤ 1000 by omega) (show c.length ≤ 1000 by omega) (.il p) (.il i) (.il c)
      have h30 := c30 (show p.length ≤ 1000 by omega) (show i.length ≤ 1000 by omega) (show c.length ≤ 1000 by omega) (.il p) (.il i) (.il c)
      have h29 := c29 p i c
      have h31 := c31 p i c
      obtain ⟨k1, k2, k3⟩ := set_lengths p i c n how
      have s0 := c21 (show p.length ≤ 1000000 by omega) (show i.length ≤ 1000000 by omega) (show c.length ≤ 1000000 by omega) (.il p) (.il i) (.il c) (.il p) (.il i) (.il c)
      have s1 := c21 (show (setP p n how).length ≤ 1000000 by omega) (show (setI i n how).length ≤ 1000000 by omega) (show (setC c n how).length ≤ 1000000 by omega) (.il (setP p n how)) (.il (setI i n how)) (.il (setC c n how)) (.il (setP p n how)) (.il (setI i n how)) (.il (setC c n how))
      have s2 := c21 (show ([] : List Int).length ≤ 1000000 by simp) (show i.length ≤ 1000000 by omega) (show c.length ≤ 1000000 by omega) .e0 (.il i) (.il c) .e0 (.il i) (.il c)
      have s3 := c21 (show p.length ≤ 1000000 by omega) (show i.length ≤ 1000000 by omega) (show ([] : List Int).length ≤ 1000000 by simp) (.il p) (.il i) .e0 (.il p) (.il i) .e0
      by_cases hm : mayS n how
      · rw [if_pos hm] at h25 h27
        by_cases h1 : how = 1 ∧ n ≠ 18
        · rw [if_pos h1] at h27
          generalize setP p n how = q1 at h25 h27 s1
          generalize setI i n how = q2 at h25 h27 s1
          generalize setC c n how = q3 at h25 h27 s1
          simp [f8, f8body, h17, h18, h25, h27, h28, h29, h30, h31, s1, s2, s3, c10]
        · rw [if_neg h1] at h27
          have e : setP p n how = p := by unfold setP; rw [if_neg h1]
          rw [e] at h25 s1
          generalize setI i n how = q2 at h25 h27 s1
          generalize setC c n how = q3 at h25 h27 s1
          simp [f8, f8body, h17, h18, h25, h27, h28, h29, h30, h31, s1, s2, s3, c10]
      · rw [if_neg hm] at h25 h27
        simp [f8, f8body, h17, h18, h25, h27, h28, h29, h30, h31, s0, s2, s3, c10]
    · simp [f8, f8body, h17, h18, hv, c10]
  · rw [decide_eq_false hs] at h17
    simp [f8, f8body, h17, c10]
end Go.Proofs.YtlkfejigeeddaaaDoor
