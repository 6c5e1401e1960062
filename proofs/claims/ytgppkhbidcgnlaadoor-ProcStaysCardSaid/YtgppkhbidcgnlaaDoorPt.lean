/- ProcMeans: Targets on both sides; the law's function. No condition. -/
import Derived.Test.YtgppkhbidcgnlaaDoorPm
namespace Go.Proofs.YtgppkhbidcgnlaaDoor
open Go.PI
set_option maxRecDepth 100000
set_option maxHeartbeats 8000000
set_option linter.unusedSimpArgs false
abbrev im (l : List Int) : List AV := l.map (.int .i64)
abbrev outI (l : List Int) : Option (AV × List AO) := some (.ref 0 0 0 l.length, [.row 3 1 0 (im l)])
/- IndexFunc -/
theorem t52 (l : List Pr) (hl : l.length ≤ 1000000) (f : Nat) (caps : List AV) (p : Pr → Bool) (H0 : List AO) (hp : ∀ r Z, ∃ Z', callV tbl f (encP r :: caps) (H0 ++ Z) = some (.bool (p r), H0 ++ Z')) :
    ∀ (k i : Nat) (Z : List AO), i + k = l.length → ∃ Z', run tbl (.op [.tmp 4]) [.blk 0, .seq (f52r8.seq .ret)] (.loop [7, 1, 0, 8] f52b7) [(7, .int .i64 l.length), (1, .fn f caps), (0, pl l), (8, .int .i64 i)] (H0 ++ Z) = some (.int .i64 (ixP p (l.drop i) i), H0 ++ Z')
  | 0, i, Z, h => by
    refine ⟨Z, ?_⟩
    rw [run_loopD _ _ f52b7_eq]
    simp [show ¬ i < l.length by omega, show l.drop i = [] from List.drop_eq_nil_of_le (by omega), ixP]
  | k + 1, i, Z, h => by
    have hi : i < l.length := by omega
    obtain ⟨Z1, h1⟩ := hp l[i] Z
    rw [ixP_step hi]
    cases e : p l[i]
    · obtain ⟨Z', ih⟩ := t52 l hl f caps p H0 hp k (i + 1) Z1 (by omega)
      refine ⟨Z', ?_⟩
      rw [Int.natCast_succ] at ih
      rw [e] at h1
      rw [run_loopD _ _ f52b7_eq]
      simp [hi, h1, wrapS i (by omega), ih]
    · refine ⟨Z1, ?_⟩
      rw [e] at h1
      rw [run_loopD _ _ f52b7_eq]
      simp [hi, h1]
theorem cv52 (l : List Pr) (hl : l.length ≤ 1000000) (f : Nat) (caps : List AV) (p : Pr → Bool) (H0 : List AO) (hp : ∀ r Z, ∃ Z', callV tbl f (encP r :: caps) (H0 ++ Z) = some (.bool (p r), H0 ++ Z')) (Z : List AO) :
    ∃ Z', callV tbl 52 [pl l, .fn f caps] (H0 ++ Z) = some (.int .i64 (ixP p l 0), H0 ++ Z') := by
  obtain ⟨Z', h⟩ := t52 l hl f caps p H0 hp l.length 0 Z (by omega)
  refine ⟨Z', ?_⟩
  rw [callV_run tbl (f := 52) (fn := f52) rfl _ _ rfl]
  simp at h
  simp [f52, f52body, h]
theorem cv71 (r : Pr) (n : Int) (H : List AO) : callV tbl 71 [encP r, .bptr 0 0] (.box 3 1 (.int .i64 n) :: H) = some (.bool (isPid n r), .box 3 1 (.int .i64 n) :: (H ++ [.box 30 13 (encP r)])) := by
  rw [callV_run tbl (f := 71) (fn := f71) rfl _ _ rfl]
  have e : (r.pid == n) = isPid n r := by by_cases h : r.pid = n <;> simp [isPid, h]
  simp [f71, f71body, e]
/- the program's Targets -/
def tg (p : Pr → Bool) (l : List Pr) (i : Nat) : List Int := ((l.take i).filter p).map (·.pid)
theorem tg_step {p : Pr → Bool} {l : List Pr} {i : Nat} (h : i < l.length) : tg p l (i + 1) = if p l[i] = true then tg p l i ++ [l[i].pid] else tg p l i := by
  unfold tg
  rw [List.take_succ_eq_append_getElem h, List.filter_append, List.map_append]
  cases e : p l[i] <;> simp [e]
theorem tg_len (p : Pr → Bool) (l : List Pr) (i : Nat) : (tg p l i).length ≤ i := by
  unfold tg
  rw [List.length_map]
  exact Nat.le_trans (List.length_filter_le _ _) (by simp; omega)
abbrev tP (to g : Int) (r : Pr) : Bool := decide (r.state ≠ 3) && (decide (0 < to) && decide (r.pid = to) || decide (to ≤ 0) && decide (r.pgid = g))
theorem t32 (l : List Pr) (hl : l.length ≤ 1000000) (to g : Int) (A : List AO) : ∀ (k i gen : Nat) (Z : List AO), i + k = l.length → run tbl (.cl [.tmp 6]) [.blk 1, .seq (f32r17.seq .ret)] (.loop [9, 32, 31, 30, 2, 7] f32b16) [(9, .ref A.length gen 0 (tg (tP to g) l i).length), (32, .int .i64 i), (31, .int .i64 l.length), (30, pl l), (2, .int .i64 to), (7, .int .i64 g)] (A ++ .row 3 1 gen (im (tg (tP to g) l i)) :: Z) = outI (tg (tP to g) l l.length)
  | 0, i, gen, Z, h => by
    obtain rfl : i = l.length := by omega
    rw [run_loopD _ _ f32b16_eq]
    generalize tg (tP to g) l l.length = R
    simp
  | k + 1, i, gen, Z, h => by
    have hi : i < l.length := by omega
    have hc := c70 l[i]
    have hs := tg_step (p := tP to g) hi
    have hln := tg_len (tP to g) l i
    rw [run_loopD _ _ f32b16_eq]
    by_cases a : l[i].state = 3
    · have ih := fun Z => t32 l hl to g A k (i + 1) gen Z (by omega)
      rw [hs, if_neg (by simp [tP, a]), Int.natCast_succ] at ih
      generalize tg (tP to g) l l.length = R at ih ⊢
      generalize tg (tP to g) l i = T at ih ⊢
      simp [a] at hc
      simp [hi, hc, wrapS i (by omega), ih]
    · simp [a] at hc
      by_cases b : 0 < to
      · by_cases c : l[i].pid = to
        · have ih := fun Z => t32 l hl to g A k (i + 1) (gen + 1) Z (by omega)
          rw [hs, if_pos (by simp [tP, a, b, c]), Int.natCast_succ] at ih
          generalize tg (tP to g) l l.length = R at ih ⊢
          generalize tg (tP to g) l i = T at ih hln ⊢
          simp at ih
          simp [hi, hc, b, eq_true c, show T.length ≤ 1073741823 by omega, wrapS i (by omega), ih]
        · have ih := fun Z => t32 l hl to g A k (i + 1) gen Z (by omega)
          rw [hs, if_neg (by simp [tP, b, c]; omega), Int.natCast_succ] at ih
          generalize tg (tP to g) l l.length = R at ih ⊢
          generalize tg (tP to g) l i = T at ih ⊢
          simp [hi, hc, b, c, show ¬ to ≤ 0 by omega, wrapS i (by omega), ih]
      · by_cases c : l[i].pgid = g
        · have ih := fun Z => t32 l hl to g A k (i + 1) (gen + 1) Z (by omega)
          rw [hs, if_pos (by simp [tP, a, b, c]; omega), Int.natCast_succ] at ih
          generalize tg (tP to g) l l.length = R at ih ⊢
          generalize tg (tP to g) l i = T at ih hln ⊢
          simp at ih
          simp [hi, hc, b, eq_true c, show to ≤ 0 by omega, show T.length ≤ 1073741823 by omega, wrapS i (by omega), ih]
        · have ih := fun Z => t32 l hl to g A k (i + 1) gen Z (by omega)
          rw [hs, if_neg (by simp [tP, b, c]), Int.natCast_succ] at ih
          generalize tg (tP to g) l l.length = R at ih ⊢
          generalize tg (tP to g) l i = T at ih ⊢
          simp [hi, hc, b, c, show to ≤ 0 by omega, wrapS i (by omega), ih]
def tgt (l : List Pr) (pid to : Int) : List Int := if to = -1 then [] else if to = 0 then (if ixP (isPid pid) l 0 < 0 then [] else tg (tP 0 (atP l (ixP (isPid pid) l 0).toNat).pgid) l l.length) else tg (tP to (IntKind.i64.wrap (0 - to))) l l.length
theorem c32 (l : List Pr) (hl : l.length ≤ 1000000) (pid to : Int) : callW tbl 32 [pl l, .int .i64 pid, .int .i64 to] = outI (tgt l pid to) := by
  rw [call_run tbl (f := 32) (fn := f32) rfl _ rfl]
  unfold tgt
  by_cases h1 : to = -1
  · subst h1
    rw [if_pos rfl]
    simp [f32, f32body]
  · rw [if_neg h1]
    by_cases h0 : to = 0
    · subst h0
      rw [if_pos rfl]
      obtain ⟨Z', h52⟩ := cv52 l hl 71 [.bptr 0 0] (isPid pid) [.box 3 1 (.int .i64 pid)] (fun r Z => ⟨Z ++ [.box 30 13 (encP r)], by rw [List.singleton_append, List.singleton_append]; exact cv71 r pid Z⟩) [.row 3 1 0 []]
      rcases ixP_spec (isPid pid) l 0 with ⟨e, _⟩ | ⟨j, hj, e, _, _⟩
      · rw [e] at h52 ⊢
        rw [if_pos (by omega)]
        simp at h52
        simp [f32, f32body, h52]
      · rw [Nat.zero_add] at e
        rw [e] at h52 ⊢
        rw [if_neg (by omega), show ((j : Int)).toNat = j by omega, atP_eq hj]
        have ht := t32 l hl 0 l[j].pgid (.box 3 1 (.int .i64 pid) :: Z') l.length 0 0 [] (by omega)
        rw [show tg (tP 0 l[j].pgid) l 0 = [] from rfl] at ht
        generalize tg (tP 0 l[j].pgid) l l.length = R at ht ⊢
        simp at h52 ht
        simp [f32, f32body, h52, hj, show ¬ (j : Int) < 0 by omega, ht]
    · rw [if_neg h0]
      have ht := t32 l hl to (IntKind.i64.wrap (0 - to)) [.box 3 1 (.int .i64 pid), .row 3 1 0 []] l.length 0 0 [] (by omega)
      rw [show tg (tP to (IntKind.i64.wrap (0 - to))) l 0 = [] from rfl] at ht
      generalize tg (tP to (IntKind.i64.wrap (0 - to))) l l.length = R at ht ⊢
      generalize hg : IntKind.i64.wrap (0 - to) = g at ht
      simp at ht hg
      simp [f32, f32body, h1, h0, hg, ht]
/- the reference's Find and Targets -/
abbrev zP : AV := .agg [.int .i64 0, .int .i64 0, .int .i64 0, .int .i64 0, .int .i64 0, .int .i64 0, .bool false, .int .i64 0, .e0, .e0, .e0, .e0, .str []]
theorem c13n (l : List Pr) (hl : l.length ≤ 1000000) (n : Int) (h : ixP (isPid n) l 0 = -1) : callW tbl 13 [pl l, .int .i64 n] = some (.tup [zP, .bool false], []) := by
  rw [call_run tbl (f := 13) (fn := f13) rfl _ rfl]
  have h41 := c41 l hl n
  rw [h] at h41
  simp [f13, f13body, h41]
theorem c13s (l : List Pr) (hl : l.length ≤ 1000000) (n : Int) (j : Nat) (hj : j < l.length) (h : ixP (isPid n) l 0 = j) : callW tbl 13 [pl l, .int .i64 n] = some (.tup [encP l[j], .bool true], []) := by
  rw [call_run tbl (f := 13) (fn := f13) rfl _ rfl]
  have h41 := c41 l hl n
  rw [h] at h41
  simp [f13, f13body, h41, hj]
abbrev tR (to : Int) (ok : Bool) (pg : Int) (r : Pr) : Bool := decide (r.state ≠ 3) && (decide (0 < to) && decide (r.pid = to) || (decide (to = 0) && ok && decide (r.pgid = pg)) || decide (to < -1) && decide (r.pgid = IntKind.i64.wrap (0 - to)))
theorem t33 (l : List Pr) (hl : l.length ≤ 1000000) (to : Int) (ok : Bool) (pg : Int) (x0 : AO) (c0 c1 : AV) (cs : List AV) (g : Int) (hg : IntKind.i64.wrap (0 - to) = g) : ∀ (k i gen : Nat) (Z : List AO), i + k = l.length → run tbl (.cl [.tmp 6]) [.blk 0, .seq (f33r11.seq .ret)] (.loop [10, 0, 7, 2, 8, 9] f33b10) [(10, .int .i64 i), (0, pl l), (7, .ref 1 gen 0 (tg (tR to ok pg) l i).length), (2, .int .i64 to), (8, .bptr 2 0), (9, .bool ok)] (x0 :: .row 3 1 gen (im (tg (tR to ok pg) l i)) :: .box 30 13 (.agg (c0 :: c1 :: .int .i64 pg :: cs)) :: Z) = outI (tg (tR to ok pg) l l.length)
  | 0, i, gen, Z, h => by
    obtain rfl : i = l.length := by omega
    rw [run_loopD _ _ f33b10_eq]
    generalize tg (tR to ok pg) l l.length = R
    simp
  | k + 1, i, gen, Z, h => by
    have hi : i < l.length := by omega
    have hs := tg_step (p := tR to ok pg) hi
    have hln := tg_len (tR to ok pg) l i
    have ihn := fun (hc : tR to ok pg l[i] = false) Z => (by
      have ih := t33 l hl to ok pg x0 c0 c1 cs g hg k (i + 1) gen Z (by omega)
      rw [hs, if_neg (by simp [hc]), Int.natCast_succ] at ih
      exact ih : run tbl (.cl [.tmp 6]) [.blk 0, .seq (f33r11.seq .ret)] (.loop [10, 0, 7, 2, 8, 9] f33b10) [(10, .int .i64 ((i : Int) + 1)), (0, pl l), (7, .ref 1 gen 0 (tg (tR to ok pg) l i).length), (2, .int .i64 to), (8, .bptr 2 0), (9, .bool ok)] (x0 :: .row 3 1 gen (im (tg (tR to ok pg) l i)) :: .box 30 13 (.agg (c0 :: c1 :: .int .i64 pg :: cs)) :: Z) = outI (tg (tR to ok pg) l l.length))
    have ihy := fun (hc : tR to ok pg l[i] = true) Z => (by
      have ih := t33 l hl to ok pg x0 c0 c1 cs g hg k (i + 1) (gen + 1) Z (by omega)
      rw [hs, if_pos hc, Int.natCast_succ] at ih
      exact ih : run tbl (.cl [.tmp 6]) [.blk 0, .seq (f33r11.seq .ret)] (.loop [10, 0, 7, 2, 8, 9] f33b10) [(10, .int .i64 ((i : Int) + 1)), (0, pl l), (7, .ref 1 (gen + 1) 0 (tg (tR to ok pg) l i ++ [l[i].pid]).length), (2, .int .i64 to), (8, .bptr 2 0), (9, .bool ok)] (x0 :: .row 3 1 (gen + 1) (im (tg (tR to ok pg) l i ++ [l[i].pid])) :: .box 30 13 (.agg (c0 :: c1 :: .int .i64 pg :: cs)) :: Z) = outI (tg (tR to ok pg) l l.length))
    rw [run_loopD _ _ f33b10_eq]
    generalize tg (tR to ok pg) l l.length = R at ihn ihy ⊢
    generalize tg (tR to ok pg) l i = T at ihn ihy hln ⊢
    have hT : T.length ≤ 1073741823 := by omega
    have ws := wrapS i (by omega)
    unfold tR at ihn ihy
    rw [hg] at ihn ihy
    simp at hg
    by_cases a : l[i].state = 3
    · have ih := ihn (by simp [a])
      simp [hi, eq_true a, ws, ih]
    · by_cases b : 0 < to
      · by_cases c : l[i].pid = to
        · have ih := ihy (by simp [a, b, c])
          simp at ih
          simp [hi, a, b, eq_true c, hT, ws, ih]
        · have ih := ihn (by simp [c, show ¬ to = 0 by omega, show ¬ to < -1 by omega])
          simp [hi, a, b, c, show ¬ to = 0 by omega, show ¬ to < -1 by omega, ws, ih]
      · by_cases z : to = 0
        · subst z
          cases ok
          · have ih := ihn (by simp)
            simp [hi, a, ws, ih]
          · by_cases c : l[i].pgid = pg
            · have ih := ihy (by simp [a, c])
              simp at ih
              simp [hi, a, eq_true c, hT, ws, ih]
            · have ih := ihn (by simp [c])
              simp [hi, a, c, ws, ih]
        · by_cases m : to < -1
          · by_cases c : l[i].pgid = g
            · have ih := ihy (by simp [a, m, c])
              simp at ih
              simp [hi, a, b, z, m, hg, eq_true c, hT, ws, ih]
            · have ih := ihn (by simp [b, z, c])
              simp [hi, a, b, z, m, hg, c, ws, ih]
          · have ih := ihn (by simp [b, z, m])
            simp [hi, a, b, z, m, ws, ih]
def tgr (l : List Pr) (pid to : Int) : List Int := if ixP (isPid pid) l 0 < 0 then tg (tR to false 0) l l.length else tg (tR to true (atP l (ixP (isPid pid) l 0).toNat).pgid) l l.length
theorem c33 (l : List Pr) (hl : l.length ≤ 1000000) (pid to : Int) : callW tbl 33 [pl l, .int .i64 pid, .int .i64 to] = outI (tgr l pid to) := by
  rw [call_run tbl (f := 33) (fn := f33) rfl _ rfl]
  unfold tgr
  rcases ixP_spec (isPid pid) l 0 with ⟨e, _⟩ | ⟨j, hj, e, _, _⟩
  · have h13 := c13n l hl pid e
    rw [e, if_pos (by omega)]
    have ht := t33 l hl to false 0 (.row 3 1 0 []) (.int .i64 0) (.int .i64 0) [.int .i64 0, .int .i64 0, .int .i64 0, .bool false, .int .i64 0, .e0, .e0, .e0, .e0, .str []] _ rfl l.length 0 0 [] (by omega)
    rw [show tg (tR to false 0) l 0 = [] from rfl] at ht
    generalize tg (tR to false 0) l l.length = R at ht ⊢
    simp at ht
    simp [f33, f33body, h13, ht]
  · rw [Nat.zero_add] at e
    have h13 := c13s l hl pid j hj e
    rw [e, if_neg (by omega), show ((j : Int)).toNat = j by omega, atP_eq hj]
    have ht := t33 l hl to true l[j].pgid (.row 3 1 0 []) (.int .i64 l[j].pid) (.int .i64 l[j].ppid) [.int .i64 l[j].sid, .int .i64 l[j].state, .int .i64 l[j].status, .bool l[j].changed, .int .i64 l[j].wake, il l[j].sp, il l[j].si, il l[j].sc, .sl 3 (l[j].fds.map encF), .str l[j].cwd] _ rfl l.length 0 0 [] (by omega)
    rw [show tg (tR to true l[j].pgid) l 0 = [] from rfl] at ht
    generalize tg (tR to true l[j].pgid) l l.length = R at ht ⊢
    simp at ht
    simp [f33, f33body, h13, ht]
theorem tg_congr {p q : Pr → Bool} (l : List Pr) (i : Nat) (h : ∀ r, p r = q r) : tg p l i = tg q l i := by rw [show p = q from funext h]
theorem tg_none {p : Pr → Bool} (l : List Pr) (i : Nat) (h : ∀ r, p r = false) : tg p l i = [] := by
  unfold tg
  rw [List.filter_eq_nil_iff.2 (fun r _ => by simp [h r])]
  rfl
theorem tgt_eq (l : List Pr) (pid to : Int) : tgt l pid to = tgr l pid to := by
  unfold tgt tgr
  generalize ixP (isPid pid) l 0 = x
  generalize (atP l x.toNat).pgid = g
  by_cases h1 : to = -1
  · rw [if_pos h1]
    split <;> (rw [tg_none]; intro r; simp [tR, h1])
  · rw [if_neg h1]
    by_cases h0 : to = 0
    · rw [if_pos h0]
      split
      · rw [tg_none]; intro r; simp [tR, h0]
      · refine tg_congr l _ fun r => ?_
        simp [tP, tR, h0]
    · rw [if_neg h0]
      have key : ∀ ok pg r, tP to (IntKind.i64.wrap (0 - to)) r = tR to ok pg r := by
        intro ok pg r
        unfold tP tR
        by_cases b : 0 < to
        · simp [b, h0, show ¬ to ≤ 0 by omega, show ¬ to < -1 by omega]
        · simp [b, h0, show to ≤ 0 by omega, show to < -1 by omega]
      split
      · exact tg_congr l _ (key false 0)
      · exact tg_congr l _ (key true g)
/- numbers -/
theorem t31 (l : List Int) (hl : l.length ≤ 1000000) : ∀ (k i : Nat), i + k = l.length → run tbl (.cl [.tmp 4]) [.blk 0, .seq (f31r9.seq .ret)] (.loop [0, 1, 5] f31b8) [(0, il l), (1, il l), (5, .int .i64 i)] [] = some (.bool true, [])
  | 0, i, h => by
    rw [run_loopD _ _ f31b8_eq]
    simp [show ¬ i < l.length by omega]
  | k + 1, i, h => by
    have hi : i < l.length := by omega
    have ih := t31 l hl k (i + 1) (by omega)
    rw [Int.natCast_succ] at ih
    rw [run_loopD _ _ f31b8_eq]
    simp [hi, wrapS i (by omega), ih]
theorem c31 (l : List Int) (hl : l.length ≤ 1000000) : callW tbl 31 [il l, il l] = some (.bool true, []) := by
  rw [call_run tbl (f := 31) (fn := f31) rfl _ rfl]
  have h := t31 l hl l.length 0 (by omega)
  simp at h
  simp [f31, f31body, h]
/- what Small says -/
theorem smL_all (l : List Pr) : ∀ (k i : Nat), i + k = l.length → smL l k i = true → l.length ≤ 80 ∧ ∀ j, i ≤ j → j < l.length → smallB (atP l j) = true
  | 0, i, h, hs => by
    rw [smL] at hs
    exact ⟨by simpa using hs, fun j h1 h2 => by omega⟩
  | k + 1, i, h, hs => by
    have hi : i < l.length := by omega
    rw [smL] at hs
    by_cases h80 : i < 80
    · rw [if_pos h80, List.getElem?_eq_getElem hi] at hs
      simp only at hs
      cases hb : smallB l[i]
      · rw [hb] at hs; cases hs
      · rw [hb, if_pos rfl] at hs
        obtain ⟨a, b⟩ := smL_all l k (i + 1) (by omega) hs
        refine ⟨a, fun j h1 h2 => ?_⟩
        by_cases e : j = i
        · subst e; rw [atP_eq hi]; exact hb
        · exact b j (by omega) h2
    · rw [if_neg h80] at hs
      have : l.length ≤ 80 := by simpa using hs
      omega
theorem small_bnd {l : List Pr} (h : smL l l.length 0 = true) : l.length ≤ 80 ∧ ∀ r ∈ l, r.fds.length ≤ 40 ∧ r.cwd.length ≤ 200 ∧ r.sp.length ≤ 30 ∧ r.si.length ≤ 30 ∧ r.sc.length ≤ 30 := by
  obtain ⟨a, b⟩ := smL_all l l.length 0 (by omega) h
  refine ⟨a, fun r hr => ?_⟩
  obtain ⟨j, hj, rfl⟩ := List.getElem_of_mem hr
  have := b j (by omega) hj
  rw [atP_eq hj] at this
  simp [smallB] at this
  omega
theorem bnd_of_small {l : List Pr} (h : smL l l.length 0 = true) : Bnd l := fun r hr => by
  have := (small_bnd h).2 r hr
  omega
theorem c20' (l : List Pr) : callW tbl 20 [pl l] = some (.bool (smL l l.length 0 && decide (vR l = 0)), []) := c20 l fun h => ⟨by have := (small_bnd h).1; omega, bnd_of_small h⟩
theorem c7 (l : List Pr) (pid to : Int) : callW tbl 7 [pl l, .int .i64 pid, .int .i64 to] = some (.bool true, []) := by
  rw [call_run tbl (f := 7) (fn := f7) rfl _ rfl]
  have h20 := c20' l
  cases hs : smL l l.length 0 && decide (vR l = 0)
  · rw [hs] at h20
    simp [f7, f7body, h20, c11]
  · rw [hs] at h20
    simp only [Bool.and_eq_true, decide_eq_true_eq] at hs
    have hl : l.length ≤ 1000000 := by have := (small_bnd hs.1).1; omega
    have ok := ok_of_vR hs.2
    have h29 := c29 l hl to
    have h30 := c30 l hl to
    rw [orQ_eq ok.asc to l.length 0 (by omega)] at h29
    have h32 := c32 l hl pid to
    have h33 := c33 l hl pid to
    rw [tgt_eq] at h32
    have hT : (tgr l pid to).length ≤ 1000000 := by
      unfold tgr
      split <;> exact Nat.le_trans (tg_len _ _ _) hl
    have h31 := c31 (tgr l pid to) hT
    generalize tgr l pid to = T at h32 h33 h31
    generalize orR l to l.length 0 = B at h29 h30
    simp [f7, f7body, h20, h29, h30, h32, h33, h31, c11]
/-- a list of processes, read -/
theorem fds3 {c : AV} (h : HasTy (.sl true [.int .i64, .int .i64, .bool]) c) : ∃ l : List Fd3, c = .sl 3 (l.map encF) ∧ l.length ≤ maxLen ∧ ∀ x ∈ l, True :=
  HasTy.structs h (fun cs hl hj => by
    have h0 := Tys.of _ cs hl hj
    obtain ⟨_, _, rfl, k0, h0⟩ := h0.cons_inv
    obtain ⟨_, _, rfl, k1, h0⟩ := h0.cons_inv
    obtain ⟨_, _, rfl, k2, h0⟩ := h0.cons_inv
    obtain rfl := h0.nil_inv
    obtain ⟨a, rfl, _⟩ := k0.int_inv
    obtain ⟨b, rfl, _⟩ := k1.int_inv
    obtain ⟨d, rfl⟩ := k2.bool_inv
    exact ⟨⟨a, b, d⟩, rfl, trivial⟩)
theorem prs {c : AV} (h : HasTy (.sl true [.int .i64, .int .i64, .int .i64, .int .i64, .int .i64, .int .i64, .bool, .int .i64, .sl false [.int .i64], .sl false [.int .i64], .sl false [.int .i64], .sl true [.int .i64, .int .i64, .bool], .str]) c) : ∃ l : List Pr, c = pl l ∧ l.length ≤ maxLen ∧ ∀ x ∈ l, True :=
  HasTy.structs h (fun cs hl hj => by
    have h0 := Tys.of _ cs hl hj
    obtain ⟨_, _, rfl, k0, h0⟩ := h0.cons_inv
    obtain ⟨_, _, rfl, k1, h0⟩ := h0.cons_inv
    obtain ⟨_, _, rfl, k2, h0⟩ := h0.cons_inv
    obtain ⟨_, _, rfl, k3, h0⟩ := h0.cons_inv
    obtain ⟨_, _, rfl, k4, h0⟩ := h0.cons_inv
    obtain ⟨_, _, rfl, k5, h0⟩ := h0.cons_inv
    obtain ⟨_, _, rfl, k6, h0⟩ := h0.cons_inv
    obtain ⟨_, _, rfl, k7, h0⟩ := h0.cons_inv
    obtain ⟨_, _, rfl, k8, h0⟩ := h0.cons_inv
    obtain ⟨_, _, rfl, k9, h0⟩ := h0.cons_inv
    obtain ⟨_, _, rfl, k10, h0⟩ := h0.cons_inv
    obtain ⟨_, _, rfl, k11, h0⟩ := h0.cons_inv
    obtain ⟨_, _, rfl, k12, h0⟩ := h0.cons_inv
    obtain rfl := h0.nil_inv
    obtain ⟨a0, rfl, _⟩ := k0.int_inv
    obtain ⟨a1, rfl, _⟩ := k1.int_inv
    obtain ⟨a2, rfl, _⟩ := k2.int_inv
    obtain ⟨a3, rfl, _⟩ := k3.int_inv
    obtain ⟨a4, rfl, _⟩ := k4.int_inv
    obtain ⟨a5, rfl, _⟩ := k5.int_inv
    obtain ⟨a6, rfl⟩ := k6.bool_inv
    obtain ⟨a7, rfl, _⟩ := k7.int_inv
    obtain ⟨a8, rfl, _⟩ := k8.ints
    obtain ⟨a9, rfl, _⟩ := k9.ints
    obtain ⟨a10, rfl, _⟩ := k10.ints
    obtain ⟨a11, rfl, _⟩ := fds3 k11
    obtain ⟨a12, rfl, _⟩ := k12.str_inv
    exact ⟨⟨a0, a1, a2, a3, a4, a5, a6, a7, a8, a9, a10, a11, a12⟩, rfl, trivial⟩)
/-- what the package's table holds -/
theorem globOk {W : World} (h : laidMet Tryd.prog Rows.procMeansRow.laid W) : Glob cfg (fun b => b < W.heap.size) W := by
  intro g e hg
  unfold cfg gl at hg
  simp only at hg
  split at hg
  · cases hg; exact arr_glob (t := 96) (e := 9) (n := 21) 0 (by rfl) (by kernel_rfl) (by kernel_rfl) (by kernel_rfl) (by kernel_rfl) (by kernel_rfl) (.inr (by kernel_rfl)) (by kernel_rfl) h
  · cases hg
end Go.Proofs.YtgppkhbidcgnlaaDoor
