/- Signals: the reference's Send; Next on both sides. No condition. -/
import Derived.Test.YtlkfejigeeddaaaDoorSnd2
namespace Go.Proofs.YtlkfejigeeddaaaDoor
open Go.PI
set_option maxRecDepth 100000
set_option maxHeartbeats 8000000
set_option linter.unusedSimpArgs false
theorem asc_sp1 {p : List Int} (h : Asc p) (n : Int) : Asc (sp1 p n) := by
  unfold sp1
  split
  · exact h.filter _
  · split
    · exact h.filter _
    · exact h
theorem four (p : List Int) : wo (wo (wo (wo p 19) 20) 4) 5 = p.filter (fun m => !stp' m) := by
  unfold wo
  rw [List.filter_filter, List.filter_filter, List.filter_filter]
  congr 1
  funext m
  unfold stp'
  by_cases h1 : m = 19 <;> by_cases h2 : m = 20 <;> by_cases h3 : m = 4 <;> by_cases h4 : m = 5 <;> simp [h1, h2, h3, h4]
theorem wo_length (p : List Int) (n : Int) : (wo p n).length ≤ p.length := List.length_filter_le _ _
theorem c42' (l : List Int) (hl : l.length ≤ 1000) (n : Int) : callW tbl 42 [il l, .int .i64 n] = outI (wo l n) := by rw [c42 l hl n, dr_all]
theorem c46' {l : List Int} {n : Int} (hl : Asc l) (hn : kn n = true) : callW tbl 46 [il l, .int .i64 n] = outI (insS l n) := by
  rw [c46 l (by have := hl.length; omega) n, adl_eq hn hl]
abbrev outR (q i c : List Int) : Option (AV × List AO) := some (.agg [.ref 0 0 0 q.length, il i, il c], [.row 3 1 0 (im q)])
theorem c23 {p i c : List Int} (hp : Asc p) (li : i.length ≤ 1000) (n : Int) :
    callW tbl 23 [encS p i c, .int .i64 n] = if kn n = true ∧ (n = 18 ∨ stp' n = true ∨ n ∉ i) then outR (sndP p i n) i c else some (encS p i c, []) := by
  rw [call_run tbl (f := 23) (fn := f23) rfl _ rfl]
  have h14 := c14 n
  have h36 := c36 n
  have h24 := c24 i (by omega) n
  have lp := hp.length
  have l1 := wo_length p 19
  have l2 := wo_length (wo p 19) 20
  have l3 := wo_length (wo (wo p 19) 20) 4
  have hl1 := sp1_length p n
  by_cases hk : kn n = true
  · have hn : ¬ nm n = [] := by simpa [kn] using hk
    have h46 := c46' (asc_sp1 hp n) hk
    by_cases h18 : n = 18
    · rw [if_pos ⟨hk, .inl h18⟩]
      have d1 := c42' p (by omega) 19
      have d2 := c42' (wo p 19) (by omega) 20
      have d3 := c42' (wo (wo p 19) 20) (by omega) 4
      have d4 := c42' (wo (wo (wo p 19) 20) 4) (by omega) 5
      have es : wo (wo (wo (wo p 19) 20) 4) 5 = sp1 p n := by rw [four]; unfold sp1; rw [if_pos h18]
      rw [es] at d4
      unfold sndP
      rw [if_pos (.inl h18)]
      generalize sp1 p n = q at d4 h46 ⊢
      generalize wo (wo (wo p 19) 20) 4 = q3 at d3 d4
      generalize wo (wo p 19) 20 = q2 at d2 d3
      generalize wo p 19 = q1 at d1 d2
      have hs : stp' n = false := by subst h18; decide
      rw [hs] at h36
      subst h18
      generalize insS q 18 = R at h46 ⊢
      try simp at h14 d1 d2 d3 d4 h46
      simp [f23, f23body, h14, hn, h36, d1, d2, d3, d4, h46]
    · by_cases hs : stp' n = true
      · rw [if_pos ⟨hk, .inr (.inl hs)⟩]
        have d1 := c42' p (by omega) 18
        have es : wo p 18 = sp1 p n := by unfold sp1; rw [if_neg h18, if_pos hs]
        rw [es] at d1
        rw [hs] at h36
        by_cases hm : n ∈ i
        · simp [hm] at h24
          unfold sndP
          rw [if_neg (by simp [h18, hm])]
          generalize sp1 p n = q at d1 ⊢
          try simp at d1
          simp [f23, f23body, h14, hn, h36, h18, d1, h24]
        · simp [hm] at h24
          unfold sndP
          rw [if_pos (.inr hm)]
          generalize sp1 p n = q at d1 h46 ⊢
          generalize insS q n = R at h46 ⊢
          try simp at d1 h46
          simp [f23, f23body, h14, hn, h36, h18, d1, h24, h46]
      · have es : sp1 p n = p := by unfold sp1; rw [if_neg h18, if_neg hs]
        simp at hs
        rw [hs] at h36
        rw [es] at h46
        by_cases hm : n ∈ i
        · simp [hm] at h24
          rw [if_neg (by simp [h18, hm, hs])]
          simp [f23, f23body, h14, hn, h36, h18, h24]
        · simp [hm] at h24
          rw [if_pos ⟨hk, .inr (.inr hm)⟩]
          unfold sndP
          rw [if_pos (.inr hm), es]
          generalize insS p n = R at h46 ⊢
          try simp at h46
          simp [f23, f23body, h14, hn, h36, h18, h24, h46]
  · rw [if_neg (fun hh => hk hh.1)]
    have hn : nm n = [] := by simpa [kn] using hk
    rw [hn] at h14
    simp [f23, f23body, h14]
/- Min -/
theorem t38 (l : List Int) (hl : l.length ≤ 1000000) (h0 : 0 < l.length) (hm : ∀ y ∈ l, l[0] ≤ y) : ∀ (k i : Nat), i + k = l.length → run tbl (.cl [.tmp 2]) [.blk 0, .seq (f38r9.seq .ret)] (.loop [3, 4, 0] f38b8) [(3, .int .i64 l[0]), (4, .int .i64 i), (0, il l)] [] = some (.int .i64 l[0], [])
  | 0, i, h => by
    rw [run_loopD _ _ f38b8_eq]
    simp [show ¬ i < l.length by omega]
  | k + 1, i, h => by
    have hi : i < l.length := by omega
    have ih := t38 l hl h0 hm k (i + 1) (by omega)
    rw [Int.natCast_succ] at ih
    have := hm l[i] (List.getElem_mem hi)
    rw [run_loopD _ _ f38b8_eq]
    simp [hi, wrapS i (by omega), show ¬ l[i] < l[0] by omega, ih]
theorem c38 (l : List Int) (hl : l.length ≤ 1000000) (h0 : 0 < l.length) (hm : ∀ y ∈ l, l[0] ≤ y) : callW tbl 38 [il l] = some (.int .i64 l[0], []) := by
  rw [call_run tbl (f := 38) (fn := f38) rfl _ rfl]
  have h := t38 l hl h0 hm (l.length - 1) 1 (by omega)
  simp at h
  simp [f38, f38body, show ¬ (l.length : Int) < 1 by omega, h0, h]
/-- the signal that Next takes -/
def nx (p : List Int) : Int := if 9 ∈ p then 9 else p.headD 0
def eff (c : List Int) (n : Int) : Int := if n ∈ c then 4 else df n
abbrev outX (q i c : List Int) (n e : Int) : Option (AV × List AO) := some (.tup [.agg [.ref 0 0 0 q.length, .ref 1 0 0 i.length, .ref 2 0 0 c.length], .int .i64 n, .int .i64 e], [.row 3 1 0 (im q), .row 3 1 0 (im i), .row 3 1 0 (im c)])
theorem c19e {b d : AV} {i c : List Int} (hb : IsL b i) (hd : IsL d c) {a : AV} (ha : IsL a []) : callW tbl 19 [.agg [a, b, d]] = some (.tup [.agg [a, b, d], .int .i64 0, .int .i64 0], []) := by
  rw [call_run tbl (f := 19) (fn := f19) rfl _ rfl]
  generalize hl : ([] : List Int) = l at ha
  cases ha with
  | il => subst hl; cases hb <;> cases hd <;> simp [f19, f19body]
  | e0 => cases hb <;> cases hd <;> simp [f19, f19body]
theorem head_le {p : List Int} (hp : p.Pairwise (· < ·)) (h0 : 0 < p.length) : ∀ y ∈ p, p[0] ≤ y := by
  cases p with
  | nil => simp at h0
  | cons x r =>
    intro y hy
    rcases List.mem_cons.1 hy with rfl | hy
    · simp
    · have := (List.pairwise_cons.1 hp).1 y hy
      simp; omega
theorem c19 {b d : AV} {p i c : List Int} (hp : Asc p) (hne : p ≠ []) (li : i.length ≤ 1000) (lc : c.length ≤ 1000) (hb : IsL b i) (hd : IsL d c) : callW tbl 19 [.agg [il p, b, d]] = outX (wo p (nx p)) i c (nx p) (eff c (nx p)) := by
  rw [call_run tbl (f := 19) (fn := f19) rfl _ rfl]
  have lp := hp.length
  have h0 : 0 < p.length := List.length_pos_iff.2 hne
  have h38 := c38 p (by omega) h0 (head_le hp.2 h0)
  have h39 := c39 p (by omega) 9
  have h40 := c40 (by omega) li lc (.il p) hb hd
  have hnx : nx p = if (9 : Int) ∈ p then (9 : Int) else p[0] := by
    unfold nx
    split
    · rfl
    · cases p with
      | nil => simp at h0
      | cons => rfl
  obtain ⟨T1, Z1, h41⟩ := cv41 p (by omega) (nx p) [.box 30 3 (.agg [.ref 2 0 0 p.length, .ref 3 0 0 i.length, .ref 4 0 0 c.length]), .box 30 3 (.agg [.e0, .e0, .e0])] [.row 3 1 0 (im i), .row 3 1 0 (im c)] 0 []
  have hc := c39 c (by omega) (nx p)
  have h15 := c15 (nx p)
  generalize wo p (nx p) = q at h41 ⊢
  by_cases h9 : (9 : Int) ∈ p
  · rw [if_pos h9] at hnx
    simp [h9] at h39
    unfold eff
    rw [hnx] at h41 hc h15 ⊢
    by_cases hm : (9 : Int) ∈ c
    · rw [if_pos hm]
      simp [hm] at hc
      cases hb <;> cases hd <;> (try simp [il] at h40 h41 hc) <;> simp [f19, f19body, hne, h38, h39, h40, h41, hc]
    · rw [if_neg hm]
      simp [hm] at hc
      cases hb <;> cases hd <;> (try simp [il] at h40 h41 hc) <;> simp [f19, f19body, hne, h38, h39, h40, h41, hc, h15]
  · rw [if_neg h9] at hnx
    simp [h9] at h39
    unfold eff
    generalize nx p = m at hnx h41 hc h15 ⊢
    rw [← hnx] at h38
    by_cases hm : m ∈ c
    · rw [if_pos hm]
      simp [hm] at hc
      cases hb <;> cases hd <;> (try simp [il] at h40 h41 hc) <;> simp [f19, f19body, hne, h38, h39, h40, h41, hc]
    · rw [if_neg hm]
      simp [hm] at hc
      cases hb <;> cases hd <;> (try simp [il] at h40 h41 hc) <;> simp [f19, f19body, hne, h38, h39, h40, h41, hc, h15]
abbrev outY (q i c : List Int) (n e : Int) : Option (AV × List AO) := some (.tup [.agg [.ref 0 0 0 q.length, il i, il c], .int .i64 n, .int .i64 e], [.row 3 1 0 (im q)])
theorem c20 {p i c : List Int} (hp : Asc p) (lc : c.length ≤ 1000) : callW tbl 20 [encS p i c] = if p = [] then some (.tup [encS p i c, .int .i64 0, .int .i64 0], []) else outY (wo p (nx p)) i c (nx p) (eff c (nx p)) := by
  rw [call_run tbl (f := 20) (fn := f20) rfl _ rfl]
  by_cases hne : p = []
  · subst hne
    simp [f20, f20body]
  · rw [if_neg hne]
    have lp := hp.length
    have h0 : 0 < p.length := List.length_pos_iff.2 hne
    have h24 := c24 p (by omega) 9
    have hnx : nx p = if (9 : Int) ∈ p then (9 : Int) else p[0] := by
      unfold nx
      split
      · rfl
      · cases p with
        | nil => simp at h0
        | cons => rfl
    have h42 := c42' p (by omega) (nx p)
    have hc := c24 c (by omega) (nx p)
    have h16 := c16 (nx p)
    generalize wo p (nx p) = q at h42 ⊢
    by_cases h9 : (9 : Int) ∈ p
    · rw [if_pos h9] at hnx
      simp [h9] at h24
      unfold eff
      rw [hnx] at h42 hc h16 ⊢
      by_cases hm : (9 : Int) ∈ c
      · rw [if_pos hm]
        simp [hm] at hc
        simp [f20, f20body, hne, h0, h24, h42, hc]
      · rw [if_neg hm]
        simp [hm] at hc
        simp [f20, f20body, hne, h0, h24, h42, hc, h16]
    · rw [if_neg h9] at hnx
      simp [h9] at h24
      unfold eff
      rw [hnx] at h42 hc h16 ⊢
      by_cases hm : p[0] ∈ c
      · rw [if_pos hm]
        simp [hm] at hc
        simp [f20, f20body, hne, h0, h24, h42, hc]
      · rw [if_neg hm]
        simp [hm] at hc
        simp [f20, f20body, hne, h0, h24, h42, hc, h16]
/- the reference's Valid -/
def bad1 (i c : List Int) : Nat → Nat → Bool
  | 0, _ => false
  | k + 1, n => if ((n : Int) = 9 ∨ (n : Int) = 19) ∧ ((n : Int) ∈ i ∨ (n : Int) ∈ c) ∨ (n : Int) ∈ i ∧ (n : Int) ∈ c then true else bad1 i c k (n + 1)
def bad2 (p i : List Int) : Nat → Nat → Bool
  | 0, _ => false
  | k + 1, n => if ((n : Int) ≠ 18 ∧ (n : Int) ∈ p ∧ (n : Int) ∈ i) ∨ (stp' n = true ∧ (n : Int) ∈ p ∧ (18 : Int) ∈ p) then true else bad2 p i k (n + 1)
abbrev tail18 : IC := (f18r10.seq (.block 2 (.loop [5, 1] f18b17))).seq (f18r18.seq .ret)
theorem t18b (p i c : List Int) (lp : p.length ≤ 1000) (li : i.length ≤ 1000) : ∀ (k n : Nat), n + k = 21 → run tbl (.cl [.tmp 2]) [.blk 2, .seq (f18r18.seq .ret)] (.loop [5, 1] f18b17) [(5, .int .i64 n), (1, .bptr 0 0)] [.box 30 3 (encS p i c)] = some (.int .i64 (if bad2 p i k n = true then 25 else 0), [])
  | 0, n, h => by
    obtain rfl : n = 21 := by omega
    rw [run_loopD _ _ f18b17_eq]
    simp [bad2]
  | k + 1, n, h => by
    have ih := t18b p i c lp li k (n + 1) (by omega)
    rw [Int.natCast_succ] at ih
    have h1 := c24 p (by omega) n
    have h2 := c24 i (by omega) n
    have h3 := c24 p (by omega) 18
    have h4 := c36 n
    rw [run_loopD _ _ f18b17_eq]
    by_cases a1 : (n : Int) = 18
    · have hs : stp' n = false := by rw [a1]; decide
      rw [hs] at h4
      rw [show bad2 p i (k + 1) n = bad2 p i k (n + 1) from by rw [bad2, if_neg (fun hh => hh.elim (fun x => x.1 a1) (fun x => by rw [hs] at x; exact absurd x.1 (by simp)))]]
      obtain rfl : n = 18 := by omega
      generalize bad2 p i k (18 + 1) = B at ih ⊢
      simp at h4 ih
      simp [h4, ih]
    · by_cases a2 : (n : Int) ∈ p
      · simp [a2] at h1
        by_cases a3 : (n : Int) ∈ i
        · rw [show bad2 p i (k + 1) n = true from by rw [bad2, if_pos (.inl ⟨a1, a2, a3⟩)]]
          simp [a3] at h2
          simp [show (n : Int) ≤ 20 by omega, a1, h1, h2]
        · simp [a3] at h2
          by_cases a4 : stp' n = true
          · rw [a4] at h4
            by_cases a5 : (18 : Int) ∈ p
            · rw [show bad2 p i (k + 1) n = true from by rw [bad2, if_pos (.inr ⟨a4, a2, a5⟩)]]
              simp [a5] at h3
              simp [show (n : Int) ≤ 20 by omega, a1, h1, h2, h3, h4]
            · rw [show bad2 p i (k + 1) n = bad2 p i k (n + 1) from by rw [bad2, if_neg (fun hh => hh.elim (fun x => a3 x.2.2) (fun x => a5 x.2.2))]]
              simp [a5] at h3
              simp [show (n : Int) ≤ 20 by omega, a1, h1, h2, h3, h4, wrapS n (by omega), ih]
          · simp at a4
            rw [a4] at h4
            rw [show bad2 p i (k + 1) n = bad2 p i k (n + 1) from by rw [bad2, if_neg (fun hh => hh.elim (fun x => a3 x.2.2) (fun x => by rw [a4] at x; exact absurd x.1 (by simp)))]]
            simp [show (n : Int) ≤ 20 by omega, a1, h1, h2, h4, wrapS n (by omega), ih]
      · simp [a2] at h1
        rw [show bad2 p i (k + 1) n = bad2 p i k (n + 1) from by rw [bad2, if_neg (fun hh => hh.elim (fun x => a2 x.2.1) (fun x => a2 x.2.1))]]
        cases a4 : stp' n <;> rw [a4] at h4 <;> simp [show (n : Int) ≤ 20 by omega, a1, h1, h4, wrapS n (by omega), ih]
theorem t18a (p i c : List Int) (lp : p.length ≤ 1000) (li : i.length ≤ 1000) (lc : c.length ≤ 1000) : ∀ (k n : Nat), n + k = 21 → run tbl (.cl [.tmp 2]) [.blk 0, .seq tail18] (.loop [1, 3] f18b9) [(1, .bptr 0 0), (3, .int .i64 n)] [.box 30 3 (encS p i c)] = some (.int .i64 (if bad1 i c k n = true then 1 else if bad2 p i 20 1 = true then 25 else 0), [])
  | 0, n, h => by
    obtain rfl : n = 21 := by omega
    rw [run_loopD _ _ f18b9_eq]
    have ht := t18b p i c lp li 20 1 (by omega)
    generalize bad2 p i 20 1 = B at ht ⊢
    simp at ht
    simp [bad1, ht]
  | k + 1, n, h => by
    have ih := t18a p i c lp li lc k (n + 1) (by omega)
    rw [Int.natCast_succ] at ih
    generalize bad2 p i 20 1 = B at ih ⊢
    have h1 := c24 i (by omega) n
    have h2 := c24 c (by omega) n
    have hle : (n : Int) ≤ 20 := by omega
    have ws := wrapS n (by omega)
    rw [run_loopD _ _ f18b9_eq]
    by_cases a1 : (n : Int) ∈ i
    · simp [a1] at h1
      by_cases a2 : (n : Int) ∈ c
      · rw [show bad1 i c (k + 1) n = true from by rw [bad1, if_pos (.inr ⟨a1, a2⟩)]]
        simp [a2] at h2
        by_cases b1 : (n : Int) = 9
        · obtain rfl : n = 9 := by omega
          simp at h1 h2
          simp [h1, h2]
        · by_cases b2 : (n : Int) = 19
          · obtain rfl : n = 19 := by omega
            simp at h1 h2
            simp [h1, h2]
          · simp [hle, b1, b2, h1, h2]
      · simp [a2] at h2
        by_cases b1 : (n : Int) = 9
        · rw [show bad1 i c (k + 1) n = true from by rw [bad1, if_pos (.inl ⟨.inl b1, .inl a1⟩)]]
          obtain rfl : n = 9 := by omega
          simp at h1 h2
          simp [h1, h2]
        · by_cases b2 : (n : Int) = 19
          · rw [show bad1 i c (k + 1) n = true from by rw [bad1, if_pos (.inl ⟨.inr b2, .inl a1⟩)]]
            obtain rfl : n = 19 := by omega
            simp at h1 h2
            simp [h1, h2]
          · rw [show bad1 i c (k + 1) n = bad1 i c k (n + 1) from by rw [bad1, if_neg (fun hh => hh.elim (fun x => x.1.elim b1 b2) (fun x => a2 x.2))]]
            simp [hle, b1, b2, h1, h2, ws, ih]
    · simp [a1] at h1
      by_cases a2 : (n : Int) ∈ c
      · simp [a2] at h2
        by_cases b1 : (n : Int) = 9
        · rw [show bad1 i c (k + 1) n = true from by rw [bad1, if_pos (.inl ⟨.inl b1, .inr a2⟩)]]
          obtain rfl : n = 9 := by omega
          simp at h1 h2
          simp [h1, h2]
        · by_cases b2 : (n : Int) = 19
          · rw [show bad1 i c (k + 1) n = true from by rw [bad1, if_pos (.inl ⟨.inr b2, .inr a2⟩)]]
            obtain rfl : n = 19 := by omega
            simp at h1 h2
            simp [h1, h2]
          · rw [show bad1 i c (k + 1) n = bad1 i c k (n + 1) from by rw [bad1, if_neg (fun hh => hh.elim (fun x => x.1.elim b1 b2) (fun x => a1 x.1))]]
            simp [hle, b1, b2, h1, h2, ws, ih]
      · simp [a2] at h2
        rw [show bad1 i c (k + 1) n = bad1 i c k (n + 1) from by rw [bad1, if_neg (fun hh => hh.elim (fun x => x.2.elim a1 a2) (fun x => a1 x.1))]]
        by_cases b1 : (n : Int) = 9
        · obtain rfl : n = 9 := by omega
          generalize bad1 i c k (9 + 1) = B1 at ih ⊢
          simp at h1 h2 ih
          simp [h1, h2, ih]
        · by_cases b2 : (n : Int) = 19
          · obtain rfl : n = 19 := by omega
            generalize bad1 i c k (19 + 1) = B1 at ih ⊢
            simp at h1 h2 ih
            simp [h1, h2, ih]
          · simp [hle, b1, b2, h1, h2, ws, ih]
/-- what Valid gives -/
def vd (p i c : List Int) : Int := if lsf p p.length 0 = false ∨ lsf i i.length 0 = false ∨ lsf c c.length 0 = false then 1 else if bad1 i c 20 1 = true then 1 else if bad2 p i 20 1 = true then 25 else 0
theorem c18 (p i c : List Int) (lp : p.length ≤ 1000) (li : i.length ≤ 1000) (lc : c.length ≤ 1000) : callW tbl 18 [encS p i c] = some (.int .i64 (vd p i c), []) := by
  rw [call_run tbl (f := 18) (fn := f18) rfl _ rfl]
  have h1 := c37 p (by omega)
  have h2 := c37 i (by omega)
  have h3 := c37 c (by omega)
  have ht := t18a p i c lp li lc 20 1 (by omega)
  unfold vd
  generalize lsf p p.length 0 = b1 at h1 ⊢
  generalize lsf i i.length 0 = b2 at h2 ⊢
  generalize lsf c c.length 0 = b3 at h3 ⊢
  generalize bad1 i c 20 1 = B1 at ht ⊢
  generalize bad2 p i 20 1 = B2 at ht ⊢
  simp at ht
  cases b1 <;> cases b2 <;> cases b3 <;> simp [f18, f18body, h1, h2, h3, ht]
end Go.Proofs.YtlkfejigeeddaaaDoor
