/- SignalValid: Valid of the program, and the law's function. No condition. -/
import Derived.Test.YtlkfejigeeddaaaDoorIgn
namespace Go.Proofs.YtlkfejigeeddaaaDoor
open Go.PI
set_option maxRecDepth 100000
set_option maxHeartbeats 8000000
set_option linter.unusedSimpArgs false
theorem c39' {a : AV} {l : List Int} (hl : l.length ≤ 1000000) (ha : IsL a l) (n : Int) : callW tbl 39 [a, .int .i64 n] = some (.bool (decide (n ∈ l)), []) := by
  cases ha with
  | il => exact c39 l hl n
  | e0 =>
    have h51 : callW tbl 51 [.e0, .int .i64 n] = some (.int .i64 (-1), []) := by
      rw [call_run tbl (f := 51) (fn := f51) rfl _ rfl]
      simp [f51, f51body]
      rw [run_loopD _ _ f51b7_eq]
      simp
    rw [call_run tbl (f := 39) (fn := f39) rfl _ rfl]
    simp [f39, f39body, h51]
theorem c48' {a : AV} {l : List Int} (hl : l.length ≤ 1000000) (ha : IsL a l) (f : Nat) (caps : List AV) (p : Int → Bool) (H : List AO) (hp : ∀ m, callV tbl f (.int .i64 m :: caps) H = some (.bool (p m), H)) : callV tbl 48 [a, .fn f caps] H = some (.bool (l.any p), H) := by
  cases ha with
  | il => exact c48 l hl f caps p H hp
  | e0 =>
    have h54 : callV tbl 54 [.e0, .fn f caps] H = some (.int .i64 (-1), H) := by
      rw [callV_run tbl (f := 54) (fn := f54) rfl _ _ rfl]
      simp [f54, f54body]
      rw [run_loopD _ _ f54b7_eq]
      simp
    rw [callV_run tbl (f := 48) (fn := f48) rfl _ _ rfl]
    simp [f48, f48body, h54]
theorem cv49' (m : Int) {a b d : AV} {c : List Int} (hc : c.length ≤ 1000) (hd : IsL d c) (Z : List AO) : callV tbl 49 [.int .i64 m, .bptr 0 0] (.box 30 3 (.agg [a, b, d]) :: Z) = some (.bool (decide (m ∈ c)), .box 30 3 (.agg [a, b, d]) :: Z) := by
  rw [callV_run tbl (f := 49) (fn := f49) rfl _ _ rfl]
  have h := c39' (by omega) hd m
  cases hd <;> (try simp at h) <;> simp [f49, f49body, h]
/- the lists -/
theorem t26 {a : AV} {l : List Int} (hl : l.length ≤ 1000) (ha : IsL a l) (i : Int) (K : List Fr) (H : List AO) (R : Option (AV × List AO)) (hR : ∀ e : Env, e.get 16 = .int .i64 3 → e.get 1 = .bptr 0 0 → e.get 15 = .ref 1 0 0 3 → e.get 17 = .int .i64 i → run tbl (.cl [.tmp 2]) K f26r11 e H = R) :
    ∀ k j : Nat, j + k = l.length → run tbl (.cl [.tmp 2]) (.blk 2 :: .blk 1 :: .seq f26r11 :: K) (.loop [22, 15, 1, 16, 17, 21, 4, 23] f26b10) [(22, .int .i64 l.length), (15, .ref 1 0 0 3), (1, .bptr 0 0), (16, .int .i64 3), (17, .int .i64 i), (21, a), (4, a), (23, .int .i64 j)] H = if lsf l k j = true then R else some (.int .i64 1, [])
  | 0, j, h => by
    rw [run_loopD _ _ f26b10_eq, lsf, if_pos rfl]
    simp [-f26r11_run, show ¬ j < l.length by omega]
    exact hR _ (by simp) (by simp) (by simp) (by simp)
  | k + 1, j, h => by
    have hj : j < l.length := by omega
    have ih := t26 hl ha i K H R hR k (j + 1) (by omega)
    cases ha with
    | e0 => simp at h
    | il =>
      rw [Int.natCast_succ] at ih
      have hc := c35 l[j]
      rw [run_loopD _ _ f26b10_eq]
      unfold kn at hc
      by_cases h1 : nm l[j] = []
      · rw [show lsf l (k + 1) j = false by rw [lsf, at0_eq hj, if_pos (.inl h1)], if_neg (by simp)]
        simp [h1] at hc
        simp [-f26r11_run, hj, hc]
      · simp [h1] at hc
        rcases j with _ | m
        · rw [show lsf l (k + 1) 0 = lsf l k (0 + 1) by rw [lsf, at0_eq hj, if_neg (by rintro (hh | ⟨hh, _⟩); exact h1 hh; omega)]]
          generalize lsf l k (0 + 1) = B at ih ⊢
          simp at hc ih
          simp [-f26r11_run, hj, hc, h1, ih]
        · have hm : m < l.length := by omega
          have w1 := wrapN m (by omega)
          have ws := wrapS (m + 1) (by omega)
          by_cases h2 : l[m + 1] ≤ l[m]
          · rw [show lsf l (k + 1) (m + 1) = false by rw [lsf, at0_eq hj, show m + 1 - 1 = m by omega, at0_eq hm, if_pos (.inr ⟨by omega, h2⟩)], if_neg (by simp)]
            simp at ws hc
            simp [-f26r11_run, hj, hm, show (m : Int) + 1 < l.length by omega, show (0 : Int) ≤ (m : Int) + 1 by omega, show (0 : Int) < (m : Int) + 1 by omega, hc, h1, w1, ws, h2]
          · rw [show lsf l (k + 1) (m + 1) = lsf l k (m + 1 + 1) by rw [lsf, at0_eq hj, show m + 1 - 1 = m by omega, at0_eq hm, if_neg (by rintro (hh | ⟨_, hh⟩); exact h1 hh; exact h2 hh)]]
            generalize lsf l k (m + 1 + 1) = B at ih ⊢
            simp at ws hc ih
            simp [-f26r11_run, hj, hm, show (m : Int) + 1 < l.length by omega, show (0 : Int) ≤ (m : Int) + 1 by omega, show (0 : Int) < (m : Int) + 1 by omega, hc, h1, w1, ws, h2, ih]
/- the rest -/
abbrev tail26d : IC := (f26r24.seq (.cond (.t 81) (f26r25.seq .ret) .skip)).seq (f26r26.seq .ret)
abbrev tail26c : IC := (f26r17.seq (.block 4 (.loop [60, 59, 1, 61] f26b23))).seq tail26d
abbrev tail26b : IC := (f26r15.seq (.cond (.t 57) (f26r16.seq .ret) .skip)).seq tail26c
abbrev tail26 : IC := (f26r13.seq (.cond (.t 53) (f26r14.seq .ret) .skip)).seq tail26b
def vp (p i : List Int) : Nat → Nat → Bool
  | 0, _ => false
  | k + 1, j => if at0 p j ≠ 18 ∧ at0 p j ∈ i then true else vp p i k (j + 1)
def vd4 (p : List Int) : Int := if 18 ∈ p ∧ p.any stp' = true then 25 else 0
def vd3 (p i : List Int) : Int := if vp p i p.length 0 = true then 25 else vd4 p
def vd2 (p i c : List Int) : Int := if i.any (fun m => decide (m ∈ c)) = true then 1 else vd3 p i
def vd1 (p i c : List Int) : Int := if i.any fx = true ∨ c.any fx = true then 1 else vd2 p i c
theorem t26d {a b d : AV} {p : List Int} (lp : p.length ≤ 1000) (ha : IsL a p) (Z : List AO) (e : Env) (e1 : e.get 1 = .bptr 0 0) : run tbl (.cl [.tmp 2]) [] tail26d e (.box 30 3 (.agg [a, b, d]) :: Z) = some (.int .i64 (vd4 p), []) := by
  have h39 := c39' (by omega) ha 18
  have h48 := c48' (by omega) ha 34 [] stp' (.box 30 3 (.agg [a, b, d]) :: Z) (fun m => cv34 m _)
  unfold vd4
  by_cases h : 18 ∈ p
  · simp [h] at h39
    cases hs : p.any stp'
    · rw [hs] at h48
      rw [if_neg (by simp)]
      cases ha <;> (try simp at h39 h48) <;> simp [e1, h39, h48]
    · rw [hs] at h48
      rw [if_pos ⟨h, rfl⟩]
      cases ha <;> (try simp at h39 h48) <;> simp [e1, h39, h48]
  · simp [h] at h39
    rw [if_neg (fun x => h x.1)]
    cases ha <;> (try simp at h39 h48) <;> simp [e1, h39]
theorem t26c {a b d : AV} {p i : List Int} (lp : p.length ≤ 1000) (li : i.length ≤ 1000) (ha : IsL a p) (hb : IsL b i) (Z : List AO) : ∀ k j : Nat, j + k = p.length → run tbl (.cl [.tmp 2]) [.blk 4, .seq tail26d] (.loop [60, 59, 1, 61] f26b23) [(60, .int .i64 p.length), (59, a), (1, .bptr 0 0), (61, .int .i64 j)] (.box 30 3 (.agg [a, b, d]) :: Z) = some (.int .i64 (if vp p i k j = true then 25 else vd4 p), [])
  | 0, j, h => by
    rw [run_loopD _ _ f26b23_eq, vp, if_neg (by simp)]
    have ht := t26d (b := b) (d := d) lp ha Z
    generalize vd4 p = V at ht ⊢
    simp [-f26r24_run, show ¬ j < p.length by omega]
    rw [← run_seq, ← run_seq]
    exact ht _ (by simp)
  | k + 1, j, h => by
    have hj : j < p.length := by omega
    have ih := t26c (d := d) lp li ha hb Z k (j + 1) (by omega)
    have h39 := c39' (by omega) hb p[j]
    generalize vd4 p = V at ih ⊢
    cases ha with
    | e0 => simp at h
    | il =>
      rw [Int.natCast_succ] at ih
      rw [run_loopD _ _ f26b23_eq]
      by_cases h1 : p[j] = 18
      · rw [show vp p i (k + 1) j = vp p i k (j + 1) by rw [vp, at0_eq hj, if_neg (fun x => x.1 h1)]]
        generalize vp p i k (j + 1) = B at ih ⊢
        cases hb <;> simp [-f26r24_run, hj, h1, wrapS j (by omega), ih]
      · by_cases h2 : p[j] ∈ i
        · rw [show vp p i (k + 1) j = true by rw [vp, at0_eq hj, if_pos ⟨h1, h2⟩]]
          simp [h2] at h39
          cases hb <;> (try simp at h39) <;> simp [-f26r24_run, hj, h1, h39]
        · rw [show vp p i (k + 1) j = vp p i k (j + 1) by rw [vp, at0_eq hj, if_neg (fun x => h2 x.2)]]
          generalize vp p i k (j + 1) = B at ih ⊢
          simp [h2] at h39
          cases hb <;> (try simp at h39) <;> simp [-f26r24_run, hj, h1, h39, wrapS j (by omega), ih]
theorem t26b {a b d : AV} {p i c : List Int} (lp : p.length ≤ 1000) (li : i.length ≤ 1000) (lc : c.length ≤ 1000) (ha : IsL a p) (hb : IsL b i) (hd : IsL d c) (Z : List AO) (e : Env) (e1 : e.get 1 = .bptr 0 0) : run tbl (.cl [.tmp 2]) [] tail26 e (.box 30 3 (.agg [a, b, d]) :: Z) = some (.int .i64 (vd1 p i c), []) := by
  have h1 := c48' (by omega) hb 47 [] fx (.box 30 3 (.agg [a, b, d]) :: Z) (fun m => cv47 m _)
  have h2 := c48' (by omega) hd 47 [] fx (.box 30 3 (.agg [a, b, d]) :: Z) (fun m => cv47 m _)
  have h3 := c48' (by omega) hb 49 [.bptr 0 0] (fun m => decide (m ∈ c)) (.box 30 3 (.agg [a, b, d]) :: Z) (fun m => cv49' m lc hd Z)
  have ht := t26c (d := d) lp li ha hb Z p.length 0 (by omega)
  unfold vd1 vd2 vd3
  generalize i.any fx = b1 at h1 ⊢
  generalize c.any fx = b2 at h2 ⊢
  generalize i.any (fun m => decide (m ∈ c)) = b3 at h3 ⊢
  generalize (if vp p i p.length 0 = true then (25 : Int) else vd4 p) = V at ht ⊢
  cases b1
  · cases b2
    · cases b3
      · rw [if_neg (by simp), if_neg (by simp)]
        cases ha <;> (try simp at ht) <;> simp [-f26r24_run, e1, h1, h2, h3, ht]
      · rw [if_neg (by simp), if_pos rfl]
        simp [e1, h1, h2, h3]
    · rw [if_pos (by simp)]
      simp [e1, h1, h2]
  · rw [if_pos (by simp)]
    simp [e1, h1]
/-- what the program's Valid gives -/
def vd0 (p i c : List Int) : Int := if lsf p p.length 0 = true then (if lsf i i.length 0 = true then (if lsf c c.length 0 = true then vd1 p i c else 1) else 1) else 1
theorem c26 {a b d : AV} {p i c : List Int} (lp : p.length ≤ 1000) (li : i.length ≤ 1000) (lc : c.length ≤ 1000) (ha : IsL a p) (hb : IsL b i) (hd : IsL d c) : callW tbl 26 [.agg [a, b, d]] = some (.int .i64 (vd0 p i c), []) := by
  rw [call_run tbl (f := 26) (fn := f26) rfl _ rfl]
  let H : List AO := [.box 30 3 (.agg [a, b, d]), .row 28 1 0 [a, b, d]]
  let K : List Fr := [.lp [16, 1, 15, 17] f26b12, .blk 0, .seq tail26]
  have ht := t26b lp li lc ha hb hd [.row 28 1 0 [a, b, d]]
  have r3 : ∀ e : Env, e.get 16 = .int .i64 3 → e.get 1 = .bptr 0 0 → e.get 15 = .ref 1 0 0 3 → e.get 17 = .int .i64 2 → run tbl (.cl [.tmp 2]) K f26r11 e H = some (.int .i64 (vd1 p i c), []) := by
    intro e g1 g2 g3 g4
    simp only [K, H]
    simp [-f26r13_run, g1, g2, g3, g4]
    rw [run_loopD _ _ f26b12_eq]
    simp [-f26r13_run]
    rw [← run_seq, ← run_seq]
    exact ht _ (by simp)
  have s3 := t26 lc hd 2 K H _ r3 c.length 0 (by omega)
  have r2 : ∀ e : Env, e.get 16 = .int .i64 3 → e.get 1 = .bptr 0 0 → e.get 15 = .ref 1 0 0 3 → e.get 17 = .int .i64 1 → run tbl (.cl [.tmp 2]) K f26r11 e H = if lsf c c.length 0 = true then some (.int .i64 (vd1 p i c), []) else some (.int .i64 1, []) := by
    intro e g1 g2 g3 g4
    simp only [K, H] at s3 ⊢
    simp [-f26r13_run, g1, g2, g3, g4]
    rw [run_loopD _ _ f26b12_eq]
    cases hd <;> (try simp at s3) <;> simp [-f26r13_run, s3]
  have s2 := t26 li hb 1 K H _ r2 i.length 0 (by omega)
  have r1 : ∀ e : Env, e.get 16 = .int .i64 3 → e.get 1 = .bptr 0 0 → e.get 15 = .ref 1 0 0 3 → e.get 17 = .int .i64 0 → run tbl (.cl [.tmp 2]) K f26r11 e H = if lsf i i.length 0 = true then (if lsf c c.length 0 = true then some (.int .i64 (vd1 p i c), []) else some (.int .i64 1, [])) else some (.int .i64 1, []) := by
    intro e g1 g2 g3 g4
    simp only [K, H] at s2 ⊢
    simp [-f26r13_run, g1, g2, g3, g4]
    rw [run_loopD _ _ f26b12_eq]
    cases hb <;> (try simp at s2) <;> simp [-f26r13_run, s2]
  have s1 := t26 lp ha 0 K H _ r1 p.length 0 (by omega)
  unfold vd0
  have s1' : run tbl (.cl [.tmp 2]) [.blk 0, .seq tail26] (.loop [16, 1, 15, 17] f26b12) [(16, .int .i64 3), (1, .bptr 0 0), (15, .ref 1 0 0 3), (17, .int .i64 0)] H = some (.int .i64 (if lsf p p.length 0 = true then (if lsf i i.length 0 = true then (if lsf c c.length 0 = true then vd1 p i c else 1) else 1) else 1), []) := by
    rw [run_loopD _ _ f26b12_eq]
    simp only [K, H] at s1 ⊢
    generalize lsf p p.length 0 = b1 at s1 ⊢
    generalize lsf i i.length 0 = b2 at s1 ⊢
    generalize lsf c c.length 0 = b3 at s1 ⊢
    cases b1 <;> cases b2 <;> cases b3 <;> cases ha <;> (try simp at s1) <;> simp [-f26r13_run, s1]
  simp only [H] at s1'
  generalize (if lsf p p.length 0 = true then (if lsf i i.length 0 = true then (if lsf c c.length 0 = true then vd1 p i c else 1) else 1) else 1) = V at s1' ⊢
  cases ha <;> cases hb <;> cases hd <;> (try simp at s1') <;> simp [-f26r13_run, f26, f26body, s1']
/- plain -/
theorem vp_iff {p i : List Int} : ∀ (k j : Nat), j + k = p.length → (vp p i k j = true ↔ ∃ m ∈ p.drop j, m ≠ 18 ∧ m ∈ i)
  | 0, j, h => by rw [vp, List.drop_eq_nil_of_le (by omega)]; simp
  | k + 1, j, h => by
    have hj : j < p.length := by omega
    rw [vp, at0_eq hj, drop_step hj]
    by_cases hc : p[j] ≠ 18 ∧ p[j] ∈ i
    · rw [if_pos hc]
      exact ⟨fun _ => ⟨p[j], List.mem_cons_self .., hc⟩, fun _ => rfl⟩
    · rw [if_neg hc, vp_iff k (j + 1) (by omega)]
      constructor
      · rintro ⟨m, hm, h2⟩; exact ⟨m, List.mem_cons_of_mem _ hm, h2⟩
      · rintro ⟨m, hm, h2⟩
        rcases List.mem_cons.1 hm with rfl | hm
        · exact absurd h2 hc
        · exact ⟨m, hm, h2⟩
theorem bad1_iff {i c : List Int} (ai : Asc i) (ac : Asc c) : bad1 i c 20 1 = true ↔ (i.any fx = true ∨ c.any fx = true) ∨ i.any (fun m => decide (m ∈ c)) = true := by
  have fxo : ∀ {m : Int}, fx m = true ↔ m = 9 ∨ m = 19 := fun {m} => by simp [fx]
  constructor
  · intro h
    apply Classical.byContradiction
    intro hn
    have : bad1 i c 20 1 = false := by
      refine bad1_yes 20 1 fun m _ _ hh => hn ?_
      rcases hh with ⟨h9, hm | hm⟩ | ⟨hi, hc⟩
      · exact .inl (.inl (List.any_eq_true.2 ⟨m, hm, fxo.2 h9⟩))
      · exact .inl (.inr (List.any_eq_true.2 ⟨m, hm, fxo.2 h9⟩))
      · exact .inr (List.any_eq_true.2 ⟨m, hi, by simpa using hc⟩)
    rw [this] at h
    cases h
  · intro h
    cases hb : bad1 i c 20 1
    · have hn := bad1_no 20 1 hb
      rcases h with (h | h) | h
      · obtain ⟨m, hm, hx⟩ := List.any_eq_true.1 h
        have := kn_range (ai.1 m hm)
        obtain ⟨q, rfl⟩ : ∃ q : Nat, m = q := ⟨m.toNat, by omega⟩
        exact absurd (.inl ⟨fxo.1 hx, .inl hm⟩) (hn q (by omega) (by omega))
      · obtain ⟨m, hm, hx⟩ := List.any_eq_true.1 h
        have := kn_range (ac.1 m hm)
        obtain ⟨q, rfl⟩ : ∃ q : Nat, m = q := ⟨m.toNat, by omega⟩
        exact absurd (.inl ⟨fxo.1 hx, .inr hm⟩) (hn q (by omega) (by omega))
      · obtain ⟨m, hm, hx⟩ := List.any_eq_true.1 h
        have := kn_range (ai.1 m hm)
        obtain ⟨q, rfl⟩ : ∃ q : Nat, m = q := ⟨m.toNat, by omega⟩
        exact absurd (.inr ⟨hm, by simpa using hx⟩) (hn q (by omega) (by omega))
    · rfl
theorem bad2_iff {p i : List Int} (ap : Asc p) : bad2 p i 20 1 = true ↔ vp p i p.length 0 = true ∨ (18 ∈ p ∧ p.any stp' = true) := by
  rw [vp_iff p.length 0 (by omega), List.drop_zero]
  constructor
  · intro h
    apply Classical.byContradiction
    intro hn
    have : bad2 p i 20 1 = false := by
      refine bad2_yes 20 1 fun m _ _ hh => hn ?_
      rcases hh with ⟨h1, h2, h3⟩ | ⟨h1, h2, h3⟩
      · exact .inl ⟨m, h2, h1, h3⟩
      · exact .inr ⟨h3, List.any_eq_true.2 ⟨m, h2, h1⟩⟩
    rw [this] at h
    cases h
  · intro h
    cases hb : bad2 p i 20 1
    · have hn := bad2_no 20 1 hb
      rcases h with ⟨m, hm, h1, h2⟩ | ⟨h1, h2⟩
      · have := kn_range (ap.1 m hm)
        obtain ⟨q, rfl⟩ : ∃ q : Nat, m = q := ⟨m.toNat, by omega⟩
        exact absurd (.inl ⟨h1, hm, h2⟩) (hn q (by omega) (by omega))
      · obtain ⟨m, hm, hx⟩ := List.any_eq_true.1 h2
        have := kn_range (ap.1 m hm)
        obtain ⟨q, rfl⟩ : ∃ q : Nat, m = q := ⟨m.toNat, by omega⟩
        exact absurd (.inr ⟨hx, hm, h1⟩) (hn q (by omega) (by omega))
    · rfl
theorem vd0_eq (p i c : List Int) : vd0 p i c = vd p i c := by
  unfold vd0 vd
  cases h1 : lsf p p.length 0
  · simp
  · cases h2 : lsf i i.length 0
    · simp
    · cases h3 : lsf c c.length 0
      · simp
      · have ap := (lsf_iff p).1 h1
        have ai := (lsf_iff i).1 h2
        have ac := (lsf_iff c).1 h3
        rw [if_pos rfl, if_pos rfl, if_pos rfl, if_neg (by simp)]
        unfold vd1 vd2 vd3 vd4
        by_cases b1 : bad1 i c 20 1 = true
        · rw [if_pos b1]
          rcases (bad1_iff ai ac).1 b1 with h | h
          · rw [if_pos h]
          · rw [if_pos h]; split <;> rfl
        · rw [if_neg b1, if_neg (fun h => b1 ((bad1_iff ai ac).2 (.inl h))), if_neg (fun h => b1 ((bad1_iff ai ac).2 (.inr h)))]
          by_cases b2 : bad2 p i 20 1 = true
          · rw [if_pos b2]
            rcases (bad2_iff ap).1 b2 with h | h
            · rw [if_pos h]
            · rw [if_pos h]; split <;> rfl
          · rw [if_neg b2, if_neg (fun h => b2 ((bad2_iff ap).2 (.inl h))), if_neg (fun h => b2 ((bad2_iff ap).2 (.inr h)))]
theorem c7 (p i c : List Int) : callW tbl 7 [encS p i c] = some (.bool true, []) := by
  rw [call_run tbl (f := 7) (fn := f7) rfl _ rfl]
  have h17 := c17 p i c
  by_cases hs : p.length ≤ 30 ∧ i.length ≤ 30 ∧ c.length ≤ 30
  · obtain ⟨l1, l2, l3⟩ := hs
    have h18 := c18 p i c (by omega) (by omega) (by omega)
    have h26 := c26 (show p.length ≤ 1000 by omega) (show i.length ≤ 1000 by omega) (show c.length ≤ 1000 by omega) (.il p) (.il i) (.il c)
    rw [vd0_eq] at h26
    simp [l1, l2, l3] at h17
    simp [f7, f7body, h17, h18, h26, c10]
  · rw [decide_eq_false hs] at h17
    simp [f7, f7body, h17, c10]
end Go.Proofs.YtlkfejigeeddaaaDoor
