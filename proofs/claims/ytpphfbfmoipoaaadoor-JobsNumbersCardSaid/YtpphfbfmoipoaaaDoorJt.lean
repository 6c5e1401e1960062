/- Jobs: Find on both sides; the law JobsLooks. No condition. -/
import Derived.Test.YtpphfbfmoipoaaaDoorJp
import Derived.Test.YtpphfbfmoipoaaaDoorJv
import Derived.Lib.IndexMore
namespace Go.Proofs.YtpphfbfmoipoaaaDoor
open Go.PI
set_option maxRecDepth 100000
set_option maxHeartbeats 8000000
set_option linter.unusedSimpArgs false
theorem u8_ne {b : UInt8} {n : Nat} (h : ¬ b = UInt8.ofNat n) (hn : n < 256) : ¬ (b.toNat : Int) = n := by
  intro e
  refine h (UInt8.toNat_inj.1 ?_)
  simp [Nat.mod_eq_of_lt hn]
  omega
theorem beqd (a b : List UInt8) : (a == b) = decide (a = b) := by by_cases h : a = b <;> simp [h]
/- prefixes -/
def hpB (s t : List UInt8) : Bool := decide (t.length ≤ s.length) && decide (s.take t.length = t)
theorem c76 (s t : List UInt8) : callW tbl 76 [.str s, .str t] = some (.bool (hpB s t), []) := by
  rw [call_run tbl (f := 76) (fn := f76) rfl _ rfl]
  unfold hpB
  by_cases h : t.length ≤ s.length
  · simp [f76, f76body, h, beqd]
  · simp [f76, f76body, h]
theorem c79 (s t : List UInt8) : callW tbl 79 [.str s, .str t] = some (.bool (hpB s t), []) := by
  rw [call_run tbl (f := 79) (fn := f79) rfl _ rfl]
  unfold hpB
  by_cases h : t.length ≤ s.length
  · simp [f79, f79body, h, beqd]
  · simp [f79, f79body, h]
theorem v51 (s t : List UInt8) (H : List AO) : callV tbl 51 [.str s, .str t] H = some (.bool (hpB s t), H) := by
  rw [callV_run tbl (f := 51) (fn := f51) rfl _ _ rfl]
  have h := c76 s t
  simp [f51, f51body, h]
theorem v52 (s t : List UInt8) (H : List AO) (h : s.length < 4294967281) : callV tbl 52 [.str s, .str t] H = some (.bool (Lib.contains s t), H) := by
  rw [callV_ext tbl rfl]
  show (contX (.str s) (.str t)).map (fun r => (r.1, H)) = _
  simp only [contX]
  rw [if_pos h]
  rfl
theorem hpB_one (b : UInt8) (s : List UInt8) (c : UInt8) : hpB (b :: s) [c] = decide (b = c) := by simp [hpB]
theorem c46 (s : List UInt8) : callW tbl 46 [.str s, .str [37]] = some (match s with | [] => .tup [.str [], .bool false] | b :: r => if b = 37 then .tup [.str r, .bool true] else .tup [.str (b :: r), .bool false], []) := by
  have h75 : callW tbl 75 [.str s, .str [37]] = some (match s with | [] => .tup [.str [], .bool false] | b :: r => if b = 37 then .tup [.str r, .bool true] else .tup [.str (b :: r), .bool false], []) := by
    rw [call_run tbl (f := 75) (fn := f75) rfl _ rfl]
    have h := c76 s [37]
    cases s with
    | nil => simp [hpB] at h; simp [f75, f75body, h]
    | cons b r =>
      rw [hpB_one] at h
      by_cases hb : b = 37
      · simp [hb] at h; simp [f75, f75body, hb, h]
      · simp [hb] at h; simp [f75, f75body, hb, h]
  rw [call_run tbl (f := 46) (fn := f46) rfl _ rfl]
  cases s with
  | nil => simp at h75; simp [f46, f46body, h75]
  | cons b r =>
    by_cases hb : b = 37
    · simp [hb] at h75; simp [f46, f46body, hb, h75]
    · simp [hb] at h75; simp [f46, f46body, hb, h75]
/- an index or an error -/
def foP (a : Int) : Int × Int := if a < 0 then (0, 8) else (a, 0)
theorem c47 (a : Int) : callW tbl 47 [.int .i64 a] = some (.tup [.int .i64 (foP a).1, .int .i64 (foP a).2], []) := by
  rw [call_run tbl (f := 47) (fn := f47) rfl _ rfl]
  unfold foP
  by_cases h : a < 0 <;> simp [f47, f47body, h]
theorem c53 (a : Int) : callW tbl 53 [.int .i64 a] = some (.tup [.int .i64 (foP a).1, .int .i64 (foP a).2], []) := by
  rw [call_run tbl (f := 53) (fn := f53) rfl _ rfl]
  unfold foP
  by_cases h : a < 0 <;> simp [f53, f53body, h]
/- numbers -/
def dgB (c : UInt8) : Bool := decide (48 ≤ c.toNat) && decide (c.toNat ≤ 57)
def hdB (s : List UInt8) : Bool := match s with
  | [] => false
  | c :: _ => decide (¬ c = 48)
theorem t48 (s : List UInt8) (hl : s.length ≤ 1000000) : ∀ (k i : Nat), i + k = s.length → run tbl (.cl [.tmp 2]) [.blk 0, .seq (f48r7.seq .ret)] (.loop [0, 3] f48b6) [(0, .str s), (3, .int .i64 i)] [] = some (.bool ((s.drop i).all dgB && hdB s), [])
  | 0, i, h => by
    rw [run_loopD _ _ f48b6_eq]
    cases s with
    | nil => simp at h; subst h; simp [hdB]
    | cons b r =>
      by_cases hb : b = 48
      · subst hb; simp [show ¬ i < r.length + 1 by simp at h; omega, show i = r.length + 1 by simpa using h, hdB]
      · have hb' := u8_ne (n := 48) hb (by omega)
        simp at hb'
        simp [show i = r.length + 1 by simpa using h, hdB, hb, hb']
  | k + 1, i, h => by
    have hi : i < s.length := by omega
    have ih := t48 s hl k (i + 1) (by omega)
    rw [Int.natCast_succ] at ih
    have ws := wrapS i (by omega)
    rw [run_loopD _ _ f48b6_eq, List.drop_eq_getElem_cons hi, List.all_cons]
    unfold dgB at ih ⊢
    by_cases h1 : 48 ≤ s[i].toNat
    · by_cases h2 : s[i].toNat ≤ 57
      · simp [hi, h1, h2, show ¬ (s[i].toNat : Int) < 48 by omega, show ¬ (57 : Int) < s[i].toNat by omega, ws, ih, -List.getElem_cons_drop, -List.map_drop]
      · simp [hi, h1, h2, show ¬ (s[i].toNat : Int) < 48 by omega, show (57 : Int) < s[i].toNat by omega, -List.getElem_cons_drop, -List.map_drop]
    · simp [hi, h1, show (s[i].toNat : Int) < 48 by omega, -List.getElem_cons_drop, -List.map_drop]
theorem t54 (s : List UInt8) (hl : s.length ≤ 1000000) : ∀ (k i : Nat), i + k = s.length → run tbl (.cl [.tmp 2]) [.blk 0, .seq (f54r7.seq .ret)] (.loop [0, 3] f54b6) [(0, .str s), (3, .int .i64 i)] [] = some (.bool ((s.drop i).all dgB && hdB s), [])
  | 0, i, h => by
    rw [run_loopD _ _ f54b6_eq]
    cases s with
    | nil => simp at h; subst h; simp [hdB]
    | cons b r =>
      by_cases hb : b = 48
      · subst hb; simp [show ¬ i < r.length + 1 by simp at h; omega, show i = r.length + 1 by simpa using h, hdB]
      · have hb' := u8_ne (n := 48) hb (by omega)
        simp at hb'
        simp [show i = r.length + 1 by simpa using h, hdB, hb, hb']
  | k + 1, i, h => by
    have hi : i < s.length := by omega
    have ih := t54 s hl k (i + 1) (by omega)
    rw [Int.natCast_succ] at ih
    have ws := wrapS i (by omega)
    rw [run_loopD _ _ f54b6_eq, List.drop_eq_getElem_cons hi, List.all_cons]
    unfold dgB at ih ⊢
    by_cases h1 : 48 ≤ s[i].toNat
    · by_cases h2 : s[i].toNat ≤ 57
      · simp [hi, h1, h2, show ¬ (s[i].toNat : Int) < 48 by omega, show ¬ (57 : Int) < s[i].toNat by omega, ws, ih, -List.getElem_cons_drop, -List.map_drop]
      · simp [hi, h1, h2, show ¬ (s[i].toNat : Int) < 48 by omega, show (57 : Int) < s[i].toNat by omega, -List.getElem_cons_drop, -List.map_drop]
    · simp [hi, h1, show (s[i].toNat : Int) < 48 by omega, -List.getElem_cons_drop, -List.map_drop]
def numS (s : List UInt8) : Bool := s.all dgB && hdB s
theorem c48 (s : List UInt8) (hl : s.length ≤ 1000000) : callW tbl 48 [.str s] = some (.bool (numS s), []) := by
  rw [call_run tbl (f := 48) (fn := f48) rfl _ rfl]
  have h := t48 s hl s.length 0 (by omega)
  rw [List.drop_zero] at h
  unfold numS
  generalize (s.all dgB && hdB s) = u at h ⊢
  simp at h
  simp [f48, f48body, h]
theorem c54 (s : List UInt8) (hl : s.length ≤ 1000000) : callW tbl 54 [.str s] = some (.bool (numS s), []) := by
  rw [call_run tbl (f := 54) (fn := f54) rfl _ rfl]
  have h := t54 s hl s.length 0 (by omega)
  rw [List.drop_zero] at h
  unfold numS
  generalize (s.all dgB && hdB s) = u at h ⊢
  simp at h
  simp [f54, f54body, h]
/- substrings -/
def ctF (t : List UInt8) : List UInt8 → Bool
  | [] => decide (t = [])
  | b :: r => decide ((b :: r).take t.length = t) || ctF t r
theorem ctF_short {t : List UInt8} : ∀ {s : List UInt8}, s.length < t.length → ctF t s = false
  | [], h => by
    have : ¬ t = [] := by rintro rfl; simp at h
    simp [ctF, this]
  | b :: r, h => by
    have ih := ctF_short (t := t) (s := r) (by simp at h; omega)
    have : ¬ (b :: r).take t.length = t := by
      intro e
      have := congrArg List.length e
      simp at this h
      omega
    simp only [ctF, ih, this, decide_false, Bool.or_self]
theorem isP_iff (t s : List UInt8) : t.isPrefixOf s = decide (s.take t.length = t) := by
  rw [Bool.eq_iff_iff, List.isPrefixOf_iff_prefix, decide_eq_true_eq, List.prefix_iff_eq_take, eq_comm]
theorem contains_ctF (t : List UInt8) : ∀ s : List UInt8, Lib.contains s t = ctF t s
  | [] => by
    unfold Lib.contains Lib.index ctF
    cases t <;> simp
  | b :: r => by
    have ih := contains_ctF t r
    have hg := Lib.index_ge r t
    unfold Lib.contains at ih ⊢
    unfold Lib.index ctF
    rw [isP_iff]
    by_cases h : (b :: r).take t.length = t
    · simp [h]
    · simp only [h, decide_false, Bool.false_eq_true, if_false, Bool.false_or, ← ih]
      by_cases h2 : Lib.index r t = -1
      · simp [h2]
      · simp [h2]; omega
theorem t78 (s t : List UInt8) (hl : s.length ≤ 1000000) (ht : t.length ≤ 1000000) : ∀ (k i : Nat), i + k = s.length → run tbl (.cl [.tmp 4]) [.blk 0, .seq (f78r7.seq .ret)] (.loop [0, 1, 5] f78b6) [(0, .str s), (1, .str t), (5, .int .i64 i)] [] = some (.bool (ctF t (s.drop i)), [])
  | 0, i, h => by
    rw [run_loopD _ _ f78b6_eq]
    obtain rfl : i = s.length := by omega
    have e : s.drop s.length = [] := List.drop_eq_nil_of_le (by omega)
    have w1 : IntKind.i64.wrap ((s.length : Int) + t.length) = ((s.length + t.length : Nat) : Int) := wrap64 _ (by omega) (by omega)
    rw [e]
    cases t with
    | nil =>
      simp at w1
      simp [ctF, w1]
    | cons c r =>
      simp at w1
      simp [ctF, w1, show ¬ (s.length : Int) + (r.length + 1) ≤ s.length by omega]
  | k + 1, i, h => by
    have hi : i < s.length := by omega
    have ih := t78 s t hl ht k (i + 1) (by omega)
    rw [Int.natCast_succ] at ih
    have ws := wrapS i (by omega)
    have w1 : IntKind.i64.wrap ((i : Int) + t.length) = ((i + t.length : Nat) : Int) := wrap64 _ (by omega) (by omega)
    rw [run_loopD _ _ f78b6_eq]
    by_cases h1 : i + t.length ≤ s.length
    · have hd : ctF t (s.drop i) = (decide ((s.drop i).take t.length = t) || ctF t (s.drop (i + 1))) := by
        rw [List.drop_eq_getElem_cons hi]; rfl
      rw [hd]
      have hx : (s.take (i + t.length)).drop i = (s.drop i).take t.length := by rw [List.drop_take]; congr 1; omega
      have tn : ((i : Int) + t.length).toNat = i + t.length := by omega
      have t0 : (0 : Int) ≤ (i : Int) + t.length := by omega
      by_cases h2 : (s.drop i).take t.length = t
      · simp [h1, h2, w1, tn, t0, show (i : Int) + t.length ≤ s.length by omega, show i ≤ s.length by omega, -List.getElem_cons_drop, -List.map_drop]
      · simp [h1, h2, w1, tn, t0, ws, ih, show (i : Int) + t.length ≤ s.length by omega, show i ≤ s.length by omega, -List.getElem_cons_drop, -List.map_drop]
    · rw [ctF_short (by simp; omega)]
      simp [w1, h1, show ¬ (i : Int) + t.length ≤ s.length by omega]
theorem c78 (s t : List UInt8) (hl : s.length ≤ 1000000) (ht : t.length ≤ 1000000) : callW tbl 78 [.str s, .str t] = some (.bool (Lib.contains s t), []) := by
  rw [call_run tbl (f := 78) (fn := f78) rfl _ rfl]
  have h := t78 s t hl ht s.length 0 (by omega)
  rw [List.drop_zero, ← contains_ctF] at h
  simp at h
  simp [f78, f78body, h]
/- the only one that fits -/
def onlyF (p : Jb → Bool) : List Jb → Nat → Int → Int × Int
  | [], _, a => foP a
  | j :: r, i, a => if p j = true then (if 0 ≤ a then (0, 26) else onlyF p r (i + 1) i) else onlyF p r (i + 1) a
theorem onlyF_drop (p : Jb → Bool) {l : List Jb} {i : Nat} (h : i < l.length) (a : Int) : onlyF p (l.drop i) i a = if p l[i] = true then (if 0 ≤ a then (0, 26) else onlyF p (l.drop (i + 1)) (i + 1) i) else onlyF p (l.drop (i + 1)) (i + 1) a := by rw [drop_step h]; rfl
def itN (s : List UInt8) : List Jb → Nat → Option Nat
  | [], _ => none
  | j :: r, i => if Lib.itoa j.num = s then some i else itN s r (i + 1)
theorem itN_drop (s : List UInt8) {l : List Jb} {i : Nat} (h : i < l.length) : itN s (l.drop i) i = if Lib.itoa l[i].num = s then some i else itN s (l.drop (i + 1)) (i + 1) := by rw [drop_step h]; rfl
/-- what Find answers -/
def fndS (l : List Jb) : List UInt8 → Int × Int
  | [] => (0, 6)
  | c :: s => if ¬ c = 37 ∨ s = [63] then (0, 6) else if s = [] ∨ s = [37] ∨ s = [43] then foP (lastS l (-1)) else if s = [45] then foP (lastS l (lastS l (-1))) else if numS s = true then foP (oi (itN s l 0)) else
    match s with
    | [] => (0, 6)
    | d :: t => if d = 63 then onlyF (fun j => Lib.contains j.text t) l 0 (-1) else onlyF (fun j => hpB j.text (d :: t)) l 0 (-1)
theorem t55 (l : List Jb) (hl : l.length ≤ 1000000) (s : List UInt8) (g : Bool) (p : Jb → Bool) (hp : ∀ j ∈ l, callW tbl (if g = true then 78 else 79) [.str j.text, .str s] = some (.bool (p j), [])) : ∀ (k i : Nat) (a : Int), i + k = l.length → run tbl (.cl [.tmp 6, .tmp 7]) [.blk 0, .seq (f55r10.seq .ret)] (.loop [8, 2, 0, 1, 9] f55b9) [(8, .int .i64 a), (2, .bool g), (0, jl l), (1, .str s), (9, .int .i64 i)] [] = some (.tup [.int .i64 (onlyF p (l.drop i) i a).1, .int .i64 (onlyF p (l.drop i) i a).2], [])
  | 0, i, a, h => by
    rw [run_loopD _ _ f55b9_eq]
    have h53 := c53 a
    rw [show l.drop i = [] from List.drop_eq_nil_of_le (by omega)]
    simp [show i = l.length by omega, onlyF, h53]
  | k + 1, i, a, h => by
    have hi : i < l.length := by omega
    have ih := fun a => t55 l hl s g p hp k (i + 1) a (by omega)
    simp only [Int.natCast_succ] at ih
    have ws := wrapS i (by omega)
    have e1 := hp l[i] (List.getElem_mem hi)
    rw [run_loopD _ _ f55b9_eq, onlyF_drop p hi]
    generalize p l[i] = u at e1 ⊢
    have hl1 := ih (i : Int)
    have hl2 := ih a
    generalize onlyF p (l.drop (i + 1)) (i + 1) i = R1 at hl1 ⊢
    generalize onlyF p (l.drop (i + 1)) (i + 1) a = R2 at hl2 ⊢
    clear ih hp
    cases g
    · simp at e1
      cases u
      · simp [hi, e1, ws, hl2]
      · by_cases h0 : 0 ≤ a
        · simp [hi, e1, ws, h0]
        · simp [hi, e1, ws, h0, hl1]
    · simp at e1
      cases u
      · simp [hi, e1, ws, hl2]
      · by_cases h0 : 0 ≤ a
        · simp [hi, e1, ws, h0]
        · simp [hi, e1, ws, h0, hl1]
theorem c55 (l : List Jb) (hl : l.length ≤ 1000000) (s : List UInt8) (g : Bool) (p : Jb → Bool) (hp : ∀ j ∈ l, callW tbl (if g = true then 78 else 79) [.str j.text, .str s] = some (.bool (p j), [])) : callW tbl 55 [jl l, .str s, .bool g] = some (.tup [.int .i64 (onlyF p l 0 (-1)).1, .int .i64 (onlyF p l 0 (-1)).2], []) := by
  rw [call_run tbl (f := 55) (fn := f55) rfl _ rfl]
  have h := t55 l hl s g p hp l.length 0 (-1) (by omega)
  rw [List.drop_zero] at h
  generalize onlyF p l 0 (-1) = R at h ⊢
  simp at h
  simp [f55, f55body, h]
/-- the loop of the reference over the numbers -/
theorem t15 (Kr : List Fr) (l : List Jb) (hl : l.length ≤ 1000000) (hs : ∀ j ∈ l, SJ j) (s : List UInt8) : ∀ (k i : Nat), i + k = l.length → run tbl (.cl [.tmp 4, .tmp 5]) (.blk 0 :: .seq (f15r16.seq .ret) :: Kr) (.loop [0, 8, 9] f15b15) [(0, jl l), (8, .str s), (9, .int .i64 i)] [] = some (.tup [.int .i64 (foP (oi (itN s (l.drop i) i))).1, .int .i64 (foP (oi (itN s (l.drop i) i))).2], [])
  | 0, i, h => by
    rw [run_loopD _ _ f15b15_eq]
    rw [show l.drop i = [] from List.drop_eq_nil_of_le (by omega)]
    simp [show i = l.length by omega, itN, oi, foP]
  | k + 1, i, h => by
    have hi : i < l.length := by omega
    have ih := t15 Kr l hl hs s k (i + 1) (by omega)
    simp only [Int.natCast_succ] at ih
    have ws := wrapS i (by omega)
    have hsj := hs l[i] (List.getElem_mem hi)
    have e1 := c20 l[i].num (by omega) (by omega)
    rw [run_loopD _ _ f15b15_eq, itN_drop s hi]
    by_cases h1 : Lib.itoa l[i].num = s
    · simp [hi, e1, h1, oi, foP, show ¬ (i : Int) < 0 by omega]
    · rw [if_neg h1]
      generalize foP (oi (itN s (l.drop (i + 1)) (i + 1))) = R at ih ⊢
      simp [hi, e1, h1, ws, ih]
theorem c15 (l : List Jb) (hl : l.length ≤ 1000000) (hs : ∀ j ∈ l, SJ j) (s : List UInt8) (hl2 : s.length ≤ 1000000) : callW tbl 15 [jl l, .str s] = some (.tup [.int .i64 (fndS l s).1, .int .i64 (fndS l s).2], []) := by
  rw [call_run tbl (f := 15) (fn := f15) rfl _ rfl]
  cases s with
  | nil => simp [f15, f15body, fndS]
  | cons c s =>
  by_cases h37 : c = 37
  case neg =>
    have hc' := u8_ne (n := 37) h37 (by omega)
    simp at hc'
    simp [f15, f15body, fndS, h37, hc']
  subst h37
  simp only [List.length_cons] at hl2
  have e17 := c17 l hl
  have k1 := c53 (lastS l (-1))
  have k2 := c53 (lastS l (lastS l (-1)))
  simp only [fndS, not_true_eq_false, false_or]
  generalize lastS l (lastS l (-1)) = pv at e17 k2 ⊢
  generalize lastS l (-1) = cu at e17 k1 ⊢
  by_cases q1 : s = [63]
  · subst q1
    simp [f15, f15body]
  rw [if_neg q1]
  by_cases q2 : s = [] ∨ s = [37] ∨ s = [43]
  · rw [if_pos q2]
    rcases q2 with rfl | rfl | rfl <;> simp [f15, f15body, e17, k1]
  rw [if_neg q2]
  obtain ⟨q3, q4, q5⟩ : ¬ s = [] ∧ ¬ s = [37] ∧ ¬ s = [43] := by simpa using q2
  by_cases q6 : s = [45]
  · rw [if_pos q6]
    subst q6
    simp [f15, f15body, e17, k2]
  rw [if_neg q6]
  have e54 := c54 s (by omega)
  by_cases q7 : numS s = true
  · rw [if_pos q7]
    have ht := fun Kr => t15 Kr l hl hs s l.length 0 (by omega)
    simp only [List.drop_zero] at ht
    rw [q7] at e54
    generalize foP (oi (itN s l 0)) = R at ht ⊢
    simp at ht
    simp [f15, f15body, q1, q3, q4, q5, q6, e17, e54, ht]
  rw [if_neg q7]
  have q7' : numS s = false := by simpa using q7
  rw [q7'] at e54
  cases s with
  | nil => exact absurd rfl q3
  | cons d t =>
  simp only [List.length_cons] at hl2
  have htx : ∀ j ∈ l, j.text.length ≤ 1000000 := fun j hj => by have := (hs j hj).2.2.2.2; omega
  by_cases q8 : d = 63
  · subst q8
    have e55 := c55 l hl t true (fun j => Lib.contains j.text t) (fun j hj => c78 _ _ (htx j hj) (by omega))
    simp only [if_true]
    generalize onlyF (fun j => Lib.contains j.text t) l 0 (-1) = R at e55 ⊢
    have qt : ¬ t = [] := fun e => q1 (by rw [e])
    simp [f15, f15body, qt, q1, q3, q4, q5, q6, e17, e54, e55]
  · have e55 := c55 l hl (d :: t) false (fun j => hpB j.text (d :: t)) (fun j hj => c79 _ _)
    simp only [if_neg q8]
    have hd := u8_ne (n := 63) q8 (by omega)
    simp at hd
    generalize onlyF (fun j => hpB j.text (d :: t)) l 0 (-1) = R at e55 ⊢
    by_cases qt : t = []
    · subst qt
      have n1 : ¬ d = 37 := fun e => q4 (by rw [e])
      have n2 : ¬ d = 43 := fun e => q5 (by rw [e])
      have n3 : ¬ d = 45 := fun e => q6 (by rw [e])
      simp [f15, f15body, n1, n2, n3, q8, e17, e54, e55, hd]
    · simp [f15, f15body, qt, e17, e54, e55, hd]
/- the program's -/
theorem v50 (x : Jb) (hx : SJ x) (s : List UInt8) (Z : List AO) : callV tbl 50 [encJ x, .bptr 0 0] (.box 9 1 (.str s) :: Z) = some (.bool (decide (Lib.itoa x.num = s)), .box 9 1 (.str s) :: (Z ++ [.box 42 7 (encJ x)])) := by
  rw [callV_run tbl (f := 50) (fn := f50) rfl _ _ rfl]
  have e1 := c20 x.num (by omega) (by omega)
  have g : (AO.box 9 1 (.str s) :: (Z ++ [.box 42 7 (encJ x)]))[Z.length + 1]? = some (.box 42 7 (encJ x)) := by simp
  simp [f50, f50body, e1, g, beqd]
theorem t49s (s : List UInt8) (l : List Jb) (hl : l.length ≤ 1000000) (hs : ∀ j ∈ l, SJ j) : ∀ (k i : Nat) (Z : List AO), i + k = l.length → ∃ Z', run tbl (.op [.tmp 4]) [.blk 0, .seq (f49r8.seq .ret)] (.loop [7, 1, 0, 8] f49b7) [(7, .int .i64 l.length), (1, .fn 50 [.bptr 0 0]), (0, jl l), (8, .int .i64 i)] (.box 9 1 (.str s) :: Z) = some (.int .i64 (oi (itN s (l.drop i) i)), .box 9 1 (.str s) :: Z')
  | 0, i, Z, h => by
    refine ⟨Z, ?_⟩
    rw [run_loopD _ _ f49b7_eq]
    simp [show i = l.length by omega, itN, oi]
  | k + 1, i, Z, h => by
    have hi : i < l.length := by omega
    obtain ⟨Z', ih⟩ := t49s s l hl hs k (i + 1) (Z ++ [.box 42 7 (encJ l[i])]) (by omega)
    rw [Int.natCast_succ] at ih
    have ws := wrapS i (by omega)
    have e1 := v50 l[i] (hs _ (List.getElem_mem hi)) s Z
    rw [run_loopD _ _ f49b7_eq, itN_drop s hi]
    by_cases h1 : Lib.itoa l[i].num = s
    · refine ⟨Z ++ [.box 42 7 (encJ l[i])], ?_⟩
      rw [decide_eq_true h1] at e1
      rw [if_pos h1]
      simp [hi, oi, e1, -List.getElem_cons_drop, -List.map_drop]
    · refine ⟨Z', ?_⟩
      rw [decide_eq_false h1] at e1
      rw [if_neg h1]
      simp [hi, e1, ws, ih, -List.getElem_cons_drop, -List.map_drop]
theorem v49s (s : List UInt8) (l : List Jb) (hl : l.length ≤ 1000000) (hs : ∀ j ∈ l, SJ j) (Z : List AO) : ∃ Z', callV tbl 49 [jl l, .fn 50 [.bptr 0 0]] (.box 9 1 (.str s) :: Z) = some (.int .i64 (oi (itN s l 0)), .box 9 1 (.str s) :: Z') := by
  obtain ⟨Z', h⟩ := t49s s l hl hs l.length 0 Z (by omega)
  simp at h
  refine ⟨Z', ?_⟩
  rw [callV_run tbl (f := 49) (fn := f49) rfl _ _ rfl]
  simp [f49, f49body, h]
theorem t14 (l : List Jb) (hl : l.length ≤ 1000000) (s : List UInt8) (f : Nat) (p : Jb → Bool) (hp : ∀ j ∈ l, ∀ H, callV tbl f [.str j.text, .str s] H = some (.bool (p j), H)) : ∀ (k i : Nat) (a : Int) (Z : List AO), i + k = l.length → run tbl (.cl [.tmp 4, .tmp 5]) [.blk 1, .seq (f14r24.seq .ret)] (.loop [68, 67, 66, 10, 6, 11] f14b23) [(68, .int .i64 i), (67, .int .i64 l.length), (66, jl l), (10, .fn f []), (6, .bptr 0 0), (11, .int .i64 a)] (.box 9 1 (.str s) :: Z) = some (.tup [.int .i64 (onlyF p (l.drop i) i a).1, .int .i64 (onlyF p (l.drop i) i a).2], [])
  | 0, i, a, Z, h => by
    rw [run_loopD _ _ f14b23_eq]
    have h47 := c47 a
    rw [show l.drop i = [] from List.drop_eq_nil_of_le (by omega)]
    simp [show i = l.length by omega, onlyF, h47]
  | k + 1, i, a, Z, h => by
    have hi : i < l.length := by omega
    have ih := fun a Z => t14 l hl s f p hp k (i + 1) a Z (by omega)
    simp only [Int.natCast_succ] at ih
    have ws := wrapS i (by omega)
    have e1 := hp l[i] (List.getElem_mem hi)
    rw [run_loopD _ _ f14b23_eq, onlyF_drop p hi]
    generalize p l[i] = u at e1 ⊢
    have hl1 := ih (i : Int)
    have hl2 := ih a
    generalize onlyF p (l.drop (i + 1)) (i + 1) i = R1 at hl1 ⊢
    generalize onlyF p (l.drop (i + 1)) (i + 1) a = R2 at hl2 ⊢
    clear ih hp
    cases u
    · simp [hi, e1, ws, hl2]
    · by_cases h0 : 0 ≤ a
      · simp [hi, e1, ws, h0]
      · simp [hi, e1, ws, h0, hl1]
theorem c14 (l : List Jb) (hl : l.length ≤ 1000000) (hs : ∀ j ∈ l, SJ j) (s : List UInt8) (hl2 : s.length ≤ 1000000) : callW tbl 14 [jl l, .str s] = some (.tup [.int .i64 (fndS l s).1, .int .i64 (fndS l s).2], []) := by
  rw [call_run tbl (f := 14) (fn := f14) rfl _ rfl]
  have e46 := c46 s
  cases s with
  | nil => simp at e46; simp [f14, f14body, fndS, e46]
  | cons c s =>
  by_cases h37 : c = 37
  case neg => simp [h37] at e46; simp [f14, f14body, fndS, h37, e46]
  subst h37
  simp at e46
  simp only [List.length_cons] at hl2
  have e16 := c16 l hl
  have k1 := c47 (lastS l (-1))
  have k2 := c47 (lastS l (lastS l (-1)))
  simp only [fndS, not_true_eq_false, false_or]
  generalize lastS l (lastS l (-1)) = pv at e16 k2 ⊢
  generalize lastS l (-1) = cu at e16 k1 ⊢
  by_cases q1 : s = [63]
  · subst q1
    simp [f14, f14body, e46]
  rw [if_neg q1]
  by_cases q2 : s = [] ∨ s = [37] ∨ s = [43]
  · rw [if_pos q2]
    rcases q2 with rfl | rfl | rfl <;> simp [f14, f14body, e46, e16, k1]
  rw [if_neg q2]
  obtain ⟨q3, q4, q5⟩ : ¬ s = [] ∧ ¬ s = [37] ∧ ¬ s = [43] := by simpa using q2
  by_cases q6 : s = [45]
  · rw [if_pos q6]
    subst q6
    simp [f14, f14body, e46, e16, k2]
  rw [if_neg q6]
  have e48 := c48 s (by omega)
  by_cases q7 : numS s = true
  · rw [if_pos q7]
    obtain ⟨Z', ht⟩ := v49s s l hl hs []
    have e47 := c47 (oi (itN s l 0))
    rw [q7] at e48
    generalize foP (oi (itN s l 0)) = R at e47 ⊢
    generalize oi (itN s l 0) = Q at ht e47
    simp [f14, f14body, e46, q1, q3, q4, q5, q6, e16, e48, ht, e47]
  rw [if_neg q7]
  have q7' : numS s = false := by simpa using q7
  rw [q7'] at e48
  cases s with
  | nil => exact absurd rfl q3
  | cons d t =>
  simp only [List.length_cons] at hl2
  have htx : ∀ j ∈ l, j.text.length ≤ 1000000 := fun j hj => by have := (hs j hj).2.2.2.2; omega
  by_cases q8 : d = 63
  · subst q8
    have ht := t14 l hl t 52 (fun j => Lib.contains j.text t) (fun j hj H => v52 _ _ H (by have := htx j hj; omega)) l.length 0 (-1) [] (by omega)
    simp only [if_true]
    rw [List.drop_zero] at ht
    generalize onlyF (fun j => Lib.contains j.text t) l 0 (-1) = R at ht ⊢
    have qt : ¬ t = [] := fun e => q1 (by rw [e])
    simp at ht
    simp [f14, f14body, e46, qt, q1, q3, q4, q5, q6, e16, e48, ht]
  · have ht := t14 l hl (d :: t) 51 (fun j => hpB j.text (d :: t)) (fun j hj H => v51 _ _ H) l.length 0 (-1) [] (by omega)
    simp only [if_neg q8]
    rw [List.drop_zero] at ht
    have hd := u8_ne (n := 63) q8 (by omega)
    simp at hd
    generalize onlyF (fun j => hpB j.text (d :: t)) l 0 (-1) = R at ht ⊢
    simp at ht
    by_cases qt : t = []
    · subst qt
      have n1 : ¬ d = 37 := fun e => q4 (by rw [e])
      have n2 : ¬ d = 43 := fun e => q5 (by rw [e])
      have n3 : ¬ d = 45 := fun e => q6 (by rw [e])
      simp [f14, f14body, e46, n1, n2, n3, q8, e16, e48, ht, hd]
    · simp [f14, f14body, e46, qt, e16, e48, ht, hd]
theorem good_sj {j : Jb} (g : Good j) : SJ j := by
  have := numB_iff.1 g.g
  have h1 := g.n1
  have h2 := g.n2
  have h3 := g.tx
  exact ⟨by omega, by omega, by omega, by omega, by omega⟩
theorem c4 (l : List Jb) (s : List UInt8) (i : Int) (b : Bool) : callW tbl 4 [jl l, .str s, .int .i64 i, .bool b] = some (.bool true, []) := by
  rw [call_run tbl (f := 4) (fn := f4) rfl _ rfl]
  have e9 := c9 l
  cases hs : smL l 40 0 0
  · rw [hs] at e9
    simp at e9
    simp [f4, f4body, e9, c10]
  by_cases hv : vld l = 0
  · have ho := (ok_iff l).1 hv
    obtain ⟨h1, h2⟩ := small_bj hs
    rw [hs] at e9
    simp [hv] at e9
    by_cases h200 : (200 : Int) < s.length
    · simp [f4, f4body, e9, c10, h200]
    have hwj : ∀ j ∈ l, WJ j := fun j hj => (ho.good hj).wj
    have hsj : ∀ j ∈ l, SJ j := fun j hj => good_sj (ho.good hj)
    have e14 := c14 l h1 hsj s (by omega)
    have e15 := c15 l h1 hsj s (by omega)
    have e16 := c16 l h1
    have e17 := c17 l h1
    have e18 := c18 l h1 h2 hwj hsj i b
    have e19 := c19 l h1 h2 hsj i b
    generalize fndS l s = F at e14 e15
    generalize lnS l i b = L at e18 e19
    generalize lastS l (lastS l (-1)) = pv at e16 e17
    generalize lastS l (-1) = cu at e16 e17
    simp [f4, f4body, e9, c10, h200, e14, e15, e16, e17, e18, e19]
  · rw [hs] at e9
    simp [hv] at e9
    simp [f4, f4body, e9, c10]
end Go.Proofs.YtpphfbfmoipoaaaDoor
