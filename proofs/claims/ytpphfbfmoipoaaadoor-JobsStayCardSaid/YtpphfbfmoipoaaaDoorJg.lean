/- Jobs: the small functions on both sides, and Small. No condition. -/
import Derived.Test.YtpphfbfmoipoaaaDoorJf
namespace Go.Proofs.YtpphfbfmoipoaaaDoor
open Go.PI
set_option maxRecDepth 100000
set_option maxHeartbeats 8000000
set_option linter.unusedSimpArgs false
theorem c62 (n : Int) (hn : n ≤ mx) : callW tbl 62 [.int .i64 n] = some (.tup [.int .i64 (kdv n).1, .int .i64 (kdv n).2], []) := c62g tbl_fn n hn
theorem c63 : callW tbl 63 [] = some (.int .i64 768, []) := c63g tbl_fn
theorem c72 (n : Int) (l : List Int) (hl : l.length ≤ 1000000) : callW tbl 72 [il l, .int .i64 n] = some (.int .i64 (oi (ixN n l 0)), []) := c72g tbl_fn n l hl
theorem c34 (p : Int) (l : List Jb) (hl : l.length ≤ 1000000) (hb : ∀ j ∈ l, BJ j) : callW tbl 34 [jl l, .int .i64 p] = some (.tup [.int .i64 (o1 (memO p l 0)), .int .i64 (o2 (memO p l 0))], []) := c34g tbl_fn p l hl hb
theorem c64 (l : List Int) (hl : l.length ≤ 1000000) (hb : ∀ n ∈ l, n ≤ mx) : callW tbl 64 [il l] = some (.int .i64 (stL l false), []) := c64g tbl_fn l hl hb
theorem c38 {l : List Int} (hl : l.length ≤ 1000000) : callW tbl 38 [il l] = some (.ref 0 0 0 l.length, [.row 3 1 0 (im l)]) := by
  rw [call_ext tbl rfl]
  simp [tbl, ext0, cloneX]; omega
theorem c73 {l : List Jb} (hl : l.length ≤ 1000000) : callW tbl 73 [jl l] = some (.ref 0 0 0 l.length, [.row 42 7 0 (l.map encJ)]) := by
  rw [call_ext tbl rfl]
  simp [tbl, ext0, cloneX]; omega
theorem c21 (l : List Jb) (p w : Int) (h : okU l w = true) : callW tbl 21 [jl l, .int .i64 p, .int .i64 w] = outU l (updO l p w) := by
  rw [call_ext tbl rfl]
  show updX (jl l) (.int .i64 p) (.int .i64 w) = _
  simp only [updX, jbsOf_enc, Option.bind_some, if_pos h]
def numB (n : Int) : Bool := decide (1 ≤ n) && decide (n ≤ 2147483647)
theorem c33 (n : Int) : callW tbl 33 [.int .i64 n] = some (.bool (numB n), []) := by
  rw [call_run tbl (f := 33) (fn := f33) rfl _ rfl]
  unfold numB
  by_cases h1 : 1 ≤ n <;> by_cases h2 : n ≤ 2147483647 <;> simp [f33, f33body, h1, h2]
theorem c40 (n : Int) : callW tbl 40 [.int .i64 n] = some (.bool (numB n), []) := by
  rw [call_run tbl (f := 40) (fn := f40) rfl _ rfl]
  unfold numB
  by_cases h1 : 1 ≤ n <;> by_cases h2 : n ≤ 2147483647 <;> simp [f40, f40body, h1, h2]
theorem c66 (n : Int) : callW tbl 66 [.int .i64 n] = some (.tup [.int .i64 (kdv n).1, .int .i64 (kdv n).2], []) := by
  rw [call_run tbl (f := 66) (fn := f66) rfl _ rfl]
  unfold kdv
  by_cases h0 : n < 0
  · simp [f66, f66body, h0]
  · by_cases h1 : 768 < n
    · simp [f66, f66body, h0, h1]
    · have e1 : n.tdiv 256 = n / 256 := Int.tdiv_eq_ediv_of_nonneg (by omega)
      have e2 : n.tmod 256 = n % 256 := Int.tmod_eq_emod_of_nonneg (by omega)
      have w1 : IntKind.i64.wrap (n / 256) = n / 256 := wrap64 _ (by omega) (by omega)
      rw [if_neg (by omega)]
      by_cases k1 : n / 256 = 1
      · by_cases v1 : n % 256 < 1
        · simp [f66, f66body, h0, h1, e1, e2, w1, k1, v1]
        · by_cases v2 : 20 < n % 256
          · simp [f66, f66body, h0, h1, e1, e2, w1, k1, v1, v2]
          · simp [f66, f66body, h0, h1, e1, e2, w1, k1, v1, v2]
      · by_cases k2 : n / 256 = 2
        · by_cases v1 : n % 256 < 1
          · simp [f66, f66body, h0, h1, e1, e2, w1, k2, v1]
          · by_cases v2 : 20 < n % 256
            · simp [f66, f66body, h0, h1, e1, e2, w1, k2, v1, v2]
            · simp [f66, f66body, h0, h1, e1, e2, w1, k2, v1, v2]
        · simp [f66, f66body, h0, h1, e1, e2, w1, k1, k2]
def endB (n : Int) : Bool := decide (kd n = 0) || decide (kd n = 1)
theorem c84 (n : Int) : callW tbl 84 [.int .i64 n] = some (.bool (endB n), []) := by
  rw [call_run tbl (f := 84) (fn := f84) rfl _ rfl]
  have h := c66 n
  unfold endB
  rw [show (kdv n).1 = kd n from rfl] at h
  generalize kd n = k at h ⊢
  by_cases k0 : k = 0
  · simp [f84, f84body, h, k0]
  · by_cases k1 : k = 1 <;> simp [f84, f84body, h, k0, k1]
theorem c85 (n : Int) : callW tbl 85 [.int .i64 n] = some (.bool (decide (kd n = 2)), []) := by
  rw [call_run tbl (f := 85) (fn := f85) rfl _ rfl]
  have h := c66 n
  rw [show (kdv n).1 = kd n from rfl] at h
  generalize kd n = k at h ⊢
  by_cases k0 : k = 2 <;> simp [f85, f85body, h, k0]
/-- the state by the reference -/
def rst : List Int → Bool → Bool → Int
  | [], a, s => if a = true then 3 else if s = true then 2 else 1
  | n :: r, a, s => if n = -1 then 1 else rst r (a && endB n) (s || decide (kd n = 2))
theorem t67 (l : List Int) (hl : l.length ≤ 1000000) : ∀ (k i : Nat) (a s : Bool), i + k = l.length → run tbl (.cl [.tmp 2]) [.blk 0, .seq ((f67r12.seq (.cond (.t 28) (f67r13.seq .ret) .skip)).seq ((f67r14.seq (.cond (.t 29) (f67r15.seq .ret) .skip)).seq (f67r16.seq .ret)))] (.loop [0, 5, 4, 3] f67b11) [(0, il l), (5, .int .i64 i), (4, .bool s), (3, .bool a)] [] = some (.int .i64 (rst (l.drop i) a s), [])
  | 0, i, a, s, h => by
    rw [run_loopD _ _ f67b11_eq]
    cases a <;> cases s <;> simp [show i = l.length by omega, rst]
  | k + 1, i, a, s, h => by
    have hi : i < l.length := by omega
    have ih := fun a s => t67 l hl k (i + 1) a s (by omega)
    simp only [Int.natCast_succ] at ih
    have ws := wrapS i (by omega)
    have e1 := c84 l[i]
    have e2 := c85 l[i]
    rw [run_loopD _ _ f67b11_eq, drop_step hi]
    simp only [rst]
    generalize endB l[i] = u at e1 ⊢
    generalize decide (kd l[i] = 2) = v at e2 ⊢
    by_cases h1 : l[i] = -1
    · simp [hi, h1, -List.getElem_cons_drop, -List.map_drop]
    · cases u <;> cases v <;> simp [hi, h1, ws, ih, e1, e2, -List.getElem_cons_drop, -List.map_drop]
theorem c67 (l : List Int) (hl : l.length ≤ 1000000) : callW tbl 67 [il l] = some (.int .i64 (rst l true false), []) := by
  rw [call_run tbl (f := 67) (fn := f67) rfl _ rfl]
  have h := t67 l hl l.length 0 true false (by omega)
  simp at h
  simp [f67, f67body, h]
theorem t74 (l : List Int) (hl : l.length ≤ 1000000) : ∀ (k i : Nat), i + k = l.length → run tbl (.cl [.tmp 4]) [.blk 0, .seq (f74r9.seq .ret)] (.loop [0, 1, 5] f74b8) [(0, il l), (1, il l), (5, .int .i64 i)] [] = some (.bool true, [])
  | 0, i, h => by
    rw [run_loopD _ _ f74b8_eq]
    simp [show i = l.length by omega]
  | k + 1, i, h => by
    have hi : i < l.length := by omega
    have ih := t74 l hl k (i + 1) (by omega)
    rw [Int.natCast_succ] at ih
    have ws := wrapS i (by omega)
    rw [run_loopD _ _ f74b8_eq]
    simp [hi, ws, ih]
theorem c74 (l : List Int) (hl : l.length ≤ 1000000) : callW tbl 74 [il l, il l] = some (.bool true, []) := by
  rw [call_run tbl (f := 74) (fn := f74) rfl _ rfl]
  have h := t74 l hl l.length 0 (by omega)
  simp at h
  simp [f74, f74body, h]
theorem c45 (x : Jb) (hx : BJ x) : callW tbl 45 [encJ x, encJ x] = some (.bool true, []) := by
  rw [call_run tbl (f := 45) (fn := f45) rfl _ rfl]
  have e1 := c74 x.pids hx.1
  have e2 := c74 x.stats hx.2
  simp [f45, f45body, e1, e2]
theorem t13 (l : List Jb) (hl : l.length ≤ 1000000) (hb : ∀ j ∈ l, BJ j) : ∀ (k i : Nat), i + k = l.length → run tbl (.cl [.tmp 4]) [.blk 0, .seq (f13r9.seq .ret)] (.loop [0, 1, 5] f13b8) [(0, jl l), (1, jl l), (5, .int .i64 i)] [] = some (.bool true, [])
  | 0, i, h => by
    rw [run_loopD _ _ f13b8_eq]
    simp [show i = l.length by omega]
  | k + 1, i, h => by
    have hi : i < l.length := by omega
    have ih := t13 l hl hb k (i + 1) (by omega)
    rw [Int.natCast_succ] at ih
    have ws := wrapS i (by omega)
    have e1 := c45 l[i] (hb _ (List.getElem_mem hi))
    rw [run_loopD _ _ f13b8_eq]
    simp [hi, ws, ih, e1]
theorem c13 (l : List Jb) (hl : l.length ≤ 1000000) (hb : ∀ j ∈ l, BJ j) : callW tbl 13 [jl l, jl l] = some (.bool true, []) := by
  rw [call_run tbl (f := 13) (fn := f13) rfl _ rfl]
  have h := t13 l hl hb l.length 0 (by omega)
  simp at h
  simp [f13, f13body, h]
theorem t41 (n : Int) (l : List Int) (hl : l.length ≤ 1000000) : ∀ (k i : Nat), i + k = l.length → run tbl (.cl [.tmp 4]) [.blk 0, .seq (f41r7.seq .ret)] (.loop [0, 1, 5] f41b6) [(0, il l), (1, .int .i64 n), (5, .int .i64 i)] [] = some (.bool (decide (n ∈ l.drop i)), [])
  | 0, i, h => by
    rw [run_loopD _ _ f41b6_eq]
    simp [show i = l.length by omega]
  | k + 1, i, h => by
    have hi : i < l.length := by omega
    have ih := t41 n l hl k (i + 1) (by omega)
    rw [Int.natCast_succ] at ih
    have ws := wrapS i (by omega)
    rw [run_loopD _ _ f41b6_eq, drop_step hi]
    by_cases h1 : l[i] = n
    · simp [hi, h1, -List.getElem_cons_drop, -List.map_drop]
    · simp [hi, h1, show ¬ n = l[i] from fun h => h1 h.symm, ws, ih, -List.getElem_cons_drop, -List.map_drop]
theorem c41 (n : Int) (l : List Int) (hl : l.length ≤ 1000000) : callW tbl 41 [il l, .int .i64 n] = some (.bool (decide (n ∈ l)), []) := by
  rw [call_run tbl (f := 41) (fn := f41) rfl _ rfl]
  have h := t41 n l hl l.length 0 (by omega)
  simp at h
  simp [f41, f41body, h]
def memB (p : Int) : List Jb → Bool
  | [] => false
  | j :: r => decide (p ∈ j.pids) || memB p r
theorem t42 (n : Int) (l : List Jb) (hl : l.length ≤ 1000000) (hb : ∀ j ∈ l, BJ j) : ∀ (k i : Nat), i + k = l.length → run tbl (.cl [.tmp 4]) [.blk 0, .seq (f42r7.seq .ret)] (.loop [0, 1, 5] f42b6) [(0, jl l), (1, .int .i64 n), (5, .int .i64 i)] [] = some (.bool (memB n (l.drop i)), [])
  | 0, i, h => by
    rw [run_loopD _ _ f42b6_eq]
    simp [show i = l.length by omega, memB]
  | k + 1, i, h => by
    have hi : i < l.length := by omega
    have ih := t42 n l hl hb k (i + 1) (by omega)
    rw [Int.natCast_succ] at ih
    have ws := wrapS i (by omega)
    have e1 := c41 n l[i].pids (hb _ (List.getElem_mem hi)).1
    rw [run_loopD _ _ f42b6_eq, drop_step hi]
    simp only [memB]
    by_cases h1 : n ∈ l[i].pids
    · simp [h1] at e1
      simp [hi, h1, e1, -List.getElem_cons_drop, -List.map_drop]
    · simp [h1] at e1
      simp [hi, h1, e1, ws, ih, -List.getElem_cons_drop, -List.map_drop]
theorem c42 (n : Int) (l : List Jb) (hl : l.length ≤ 1000000) (hb : ∀ j ∈ l, BJ j) : callW tbl 42 [jl l, .int .i64 n] = some (.bool (memB n l), []) := by
  rw [call_run tbl (f := 42) (fn := f42) rfl _ rfl]
  have h := t42 n l hl hb l.length 0 (by omega)
  simp at h
  simp [f42, f42body, h]
def nmN (n : Int) : List Jb → Nat → Option Nat
  | [], _ => none
  | j :: r, i => if j.num = n then some i else nmN n r (i + 1)
theorem t43 (n : Int) (l : List Jb) (hl : l.length ≤ 1000000) : ∀ (k i : Nat), i + k = l.length → run tbl (.cl [.tmp 4]) [.blk 0, .seq (f43r7.seq .ret)] (.loop [0, 1, 5] f43b6) [(0, jl l), (1, .int .i64 n), (5, .int .i64 i)] [] = some (.int .i64 (oi (nmN n (l.drop i) i)), [])
  | 0, i, h => by
    rw [run_loopD _ _ f43b6_eq]
    simp [show i = l.length by omega, nmN, oi]
  | k + 1, i, h => by
    have hi : i < l.length := by omega
    have ih := t43 n l hl k (i + 1) (by omega)
    rw [Int.natCast_succ] at ih
    have ws := wrapS i (by omega)
    rw [run_loopD _ _ f43b6_eq, drop_step hi]
    by_cases h1 : l[i].num = n
    · simp [hi, nmN, oi, h1, -List.getElem_cons_drop, -List.map_drop]
    · simp [hi, nmN, h1, ws, ih, -List.getElem_cons_drop, -List.map_drop]
theorem c43 (n : Int) (l : List Jb) (hl : l.length ≤ 1000000) : callW tbl 43 [jl l, .int .i64 n] = some (.int .i64 (oi (nmN n l 0)), []) := by
  rw [call_run tbl (f := 43) (fn := f43) rfl _ rfl]
  have h := t43 n l hl l.length 0 (by omega)
  simp at h
  simp [f43, f43body, h]
/- Small -/
def smJ (j : Jb) : Bool := decide (j.pids.length ≤ 40) && decide (j.stats.length ≤ 40) && decide (j.text.length ≤ 5000)
def smL (l : List Jb) : Nat → Nat → Nat → Bool
  | 0, _, n => decide (l.length ≤ 40) && decide (n < 20000)
  | k + 1, i, n => match l[i]? with
    | none => decide (l.length ≤ 40) && decide (n < 20000)
    | some j => if n < 20000 then (if smJ j = true then smL l k (i + 1) (n + j.text.length) else false) else decide (l.length ≤ 40) && decide (n < 20000)
theorem t26 (l : List Jb) : ∀ (k i n : Nat), i + k = 40 → n ≤ 25000 → run tbl (.cl [.tmp 2]) [.blk 0, .seq (f26r9.seq .ret)] (.loop [0, 4, 3] f26b8) [(0, jl l), (4, .int .i64 i), (3, .int .i64 n)] [] = some (.bool (smL l k i n), [])
  | 0, i, n, h, hn => by
    rw [run_loopD _ _ f26b8_eq]
    obtain rfl : i = 40 := by omega
    by_cases h1 : l.length ≤ 40
    · by_cases h2 : n < 20000
      · simp [smL, h1, h2, show ¬ (40 : Int) < l.length by omega, show (n : Int) < 20000 by omega, show (l.length : Int) ≤ 40 by omega]
      · simp [smL, h1, h2, show ¬ (40 : Int) < l.length by omega, show ¬ (n : Int) < 20000 by omega, show (l.length : Int) ≤ 40 by omega]
    · simp [smL, h1, show (40 : Int) < l.length by omega, show ¬ (l.length : Int) ≤ 40 by omega]
  | k + 1, i, n, h, hn => by
    rw [run_loopD _ _ f26b8_eq]
    by_cases hi : i < l.length
    · have hg : l[i]? = some l[i] := List.getElem?_eq_getElem hi
      simp only [smL, hg]
      by_cases h2 : n < 20000
      · have h2' : (n : Int) < 20000 := by omega
        have h3' : (i : Int) < 40 := by omega
        rw [if_pos h2]
        unfold smJ
        by_cases p1 : l[i].pids.length ≤ 40
        · by_cases p2 : l[i].stats.length ≤ 40
          · by_cases p3 : l[i].text.length ≤ 5000
            · have ih := t26 l k (i + 1) (n + l[i].text.length) (by omega) (by omega)
              rw [Int.natCast_succ] at ih
              have ws := wrapS i (by omega)
              have w2 : IntKind.i64.wrap ((n : Int) + l[i].text.length) = (n : Int) + l[i].text.length := wrap64 _ (by omega) (by omega)
              simp at ih
              simp [hi, h2, h2', h3', p1, p2, p3, show ¬ (40 : Int) < l[i].pids.length by omega, show ¬ (40 : Int) < l[i].stats.length by omega, show ¬ (5000 : Int) < l[i].text.length by omega, ws, w2, ih]
            · simp [hi, h2, h2', h3', p1, p2, p3, show ¬ (40 : Int) < l[i].pids.length by omega, show ¬ (40 : Int) < l[i].stats.length by omega, show (5000 : Int) < l[i].text.length by omega]
          · simp [hi, h2, h2', h3', p1, p2, show ¬ (40 : Int) < l[i].pids.length by omega, show (40 : Int) < l[i].stats.length by omega]
        · simp [hi, h2, h2', h3', p1, show (40 : Int) < l[i].pids.length by omega]
      · rw [if_neg h2]
        by_cases h1 : l.length ≤ 40
        · simp [hi, h1, h2, show (i : Int) < 40 by omega, show ¬ (n : Int) < 20000 by omega, show (l.length : Int) ≤ 40 by omega]
        · simp [hi, h1, h2, show (i : Int) < 40 by omega, show ¬ (n : Int) < 20000 by omega, show ¬ (l.length : Int) ≤ 40 by omega]
    · have hg : l[i]? = none := List.getElem?_eq_none (by omega)
      simp only [smL, hg]
      have h1 : l.length ≤ 40 := by omega
      by_cases h2 : n < 20000
      · simp [hi, h1, h2, show ¬ (i : Int) < l.length by omega, show (n : Int) < 20000 by omega, show (l.length : Int) ≤ 40 by omega]
      · simp [hi, h1, h2, show ¬ (i : Int) < l.length by omega, show ¬ (n : Int) < 20000 by omega, show (l.length : Int) ≤ 40 by omega]
theorem c26 (l : List Jb) : callW tbl 26 [jl l] = some (.bool (smL l 40 0 0), []) := by
  rw [call_run tbl (f := 26) (fn := f26) rfl _ rfl]
  have h := t26 l 40 0 0 (by omega) (by omega)
  simp at h
  simp [f26, f26body, h]
theorem smL_len {l : List Jb} : ∀ {k i n : Nat}, smL l k i n = true → l.length ≤ 40
  | 0, i, n, h => by simp [smL] at h; exact h.1
  | k + 1, i, n, h => by
    simp only [smL] at h
    split at h
    · simp at h; exact h.1
    · split at h
      · split at h
        · exact smL_len h
        · cases h
      · simp at h; exact h.1
theorem smL_all {l : List Jb} : ∀ {k i n : Nat}, i + k = 40 → smL l k i n = true → n < 20000 ∧ ∀ j, i ≤ j → ∀ x, l[j]? = some x → smJ x = true ∧ n + x.text.length < 20000
  | 0, i, n, hk, h => by
    have hl := smL_len h
    simp [smL] at h
    refine ⟨h.2, fun j hj x hx => ?_⟩
    rw [List.getElem?_eq_none (by omega)] at hx; cases hx
  | k + 1, i, n, hk, h => by
    have hl := smL_len h
    simp only [smL] at h
    split at h
    · rename_i hg
      simp at h
      refine ⟨h.2, fun j hj x hx => ?_⟩
      have : l.length ≤ i := by simpa using hg
      rw [List.getElem?_eq_none (by omega)] at hx; cases hx
    · rename_i y hg
      split at h
      · rename_i hn
        split at h
        · rename_i hy
          obtain ⟨h1, h2⟩ := smL_all (by omega) h
          refine ⟨hn, fun j hj x hx => ?_⟩
          by_cases hji : j = i
          · subst hji
            rw [hg] at hx
            injection hx with hx
            subst hx
            exact ⟨hy, h1⟩
          · obtain ⟨h3, h4⟩ := h2 j (by omega) x hx
            exact ⟨h3, by omega⟩
        · cases h
      · rename_i hn
        simp at h
        omega
end Go.Proofs.YtpphfbfmoipoaaaDoor
