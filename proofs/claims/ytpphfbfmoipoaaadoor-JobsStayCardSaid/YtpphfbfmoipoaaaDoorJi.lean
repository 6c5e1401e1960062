/- Jobs: Valid of the program and of the reference agree; the law JobsValid. No condition. -/
import Derived.Test.YtpphfbfmoipoaaaDoorJh
namespace Go.Proofs.YtpphfbfmoipoaaaDoor
open Go.PI
set_option maxRecDepth 100000
set_option maxHeartbeats 8000000
set_option linter.unusedSimpArgs false
/- maps of numbers -/
theorem mget_set (z v : AV) : ∀ (kv : List (Int × AV)) (k n : Int), mgetD z (mset kv k v) n = if n = k then (v, true) else mgetD z kv n
  | [], k, n => by
    by_cases h : n = k
    · subst h; simp [mset, mgetD]
    · simp [mset, mgetD, h, show ¬ k = n from fun e => h e.symm]
  | (j, u) :: r, k, n => by
    by_cases hj : j = k
    · subst hj
      by_cases h : n = j
      · subst h; simp [mset, mgetD]
      · simp [mset, mgetD, h, show ¬ j = n from fun e => h e.symm]
    · have ih := mget_set z v r k n
      by_cases h : j = n
      · subst h
        simp [mset, mgetD, hj]
      · simp [mset, mgetD, hj, h, ih]
/-- the map holds these numbers -/
def Holds (kv : List (Int × AV)) (S : List Int) : Prop := ∀ n, (mgetD (.bool false) kv n).1 = .bool (decide (n ∈ S))
theorem Holds.put {kv : List (Int × AV)} {S : List Int} (h : Holds kv S) (k : Int) : Holds (mset kv k (.bool true)) (k :: S) := by
  intro n
  rw [mget_set]
  by_cases hn : n = k
  · simp [hn]
  · simp [hn, h n]
theorem Holds.nil : Holds [] [] := fun n => rfl
/-- is one of them there, or twice? -/
def dupP : List Int → List Int → Bool
  | _, [] => false
  | S, p :: r => decide (p ∈ S) || dupP (p :: S) r
def kvPut : List (Int × AV) → List Int → List (Int × AV)
  | kv, [] => kv
  | kv, p :: r => kvPut (mset kv p (.bool true)) r
theorem Holds.puts : ∀ {r : List Int} {kv : List (Int × AV)} {S : List Int}, Holds kv S → Holds (kvPut kv r) (r.reverse ++ S)
  | [], kv, S, h => by simpa [kvPut] using h
  | p :: r, kv, S, h => by
    have := Holds.puts (r := r) (h.put p)
    simpa [kvPut] using this
theorem t29i (T : IC) (K : List Fr) (l : List Int) (hl : l.length ≤ 1000000) (a b c : Int) (x15 x3 x6 : AV) (kv1 : List (Int × AV)) (Z : List AO) :
    ∀ (q : List Int) (i : Nat) (kv : List (Int × AV)) (S : List Int) (X : AV × List AO), l.drop i = q → i + q.length = l.length → Holds kv S →
      (run tbl (.cl [.tmp 2]) K T [(37, .bool false), (4, .mp 1), (34, il l), (6, x6), (3, x3), (15, x15), (16, .int .i64 a), (17, .int .i64 b), (35, .int .i64 l.length), (36, .int .i64 l.length)] (.obj (.mp kv1) :: .obj (.mp (kvPut kv q)) :: Z) = some X) →
      run tbl (.cl [.tmp 2]) (.blk 2 :: .seq T :: K) (.loop [35, 17, 16, 15, 3, 6, 34, 4, 36] f29b20) [(35, .int .i64 l.length), (17, .int .i64 b), (16, .int .i64 a), (15, x15), (3, x3), (6, x6), (34, il l), (4, .mp 1), (36, .int .i64 i)] (.obj (.mp kv1) :: .obj (.mp kv) :: Z) =
        some (if dupP S q = true then (.int .i64 9, []) else X)
  | [], i, kv, S, X, hd, h, hS, hX => by
    obtain rfl : i = l.length := by simpa using h
    rw [run_loopD _ _ f29b20_eq]
    simp only [kvPut] at hX
    simp [hX, dupP]
  | p :: q, i, kv, S, X, hd, h, hS, hX => by
    have hi : i < l.length := by simp at h; omega
    have hd' := hd
    rw [drop_step hi] at hd'
    injection hd' with hp hq
    simp only [List.length_cons] at h
    have ih := t29i T K l hl a b c x15 x3 x6 kv1 Z q (i + 1) (mset kv p (.bool true)) (p :: S) X hq (by omega) (hS.put p) hX
    rw [Int.natCast_succ] at ih
    have ws := wrapS i (by omega)
    have hg := hS p
    rw [run_loopD _ _ f29b20_eq]
    by_cases hm : p ∈ S
    · simp [hm] at hg
      simp [hi, hp, hg, hm, dupP]
    · simp [hm] at hg
      simp [hi, hp, hg, hm, dupP, ws, ih]
/-- Valid of the program -/
def vl : List Int → List Int → List Jb → Int
  | _, _, [] => 0
  | N, S, j :: r => if ¬ shape j = 0 then shape j else if j.num ∈ N then 9 else if dupP S j.pids = true then 9 else if ¬ j.state = stL j.stats false then 25 else vl (j.num :: N) (j.pids.reverse ++ S) r
theorem t29 (l : List Jb) (hl : l.length ≤ 1000000) (hb : ∀ j ∈ l, BJ j) (hw : ∀ j ∈ l, WJ j) : ∀ (k i : Nat) (kv1 kv2 : List (Int × AV)) (N S : List Int) (Z : List AO), i + k = l.length → Holds kv1 N → Holds kv2 S →
    run tbl (.cl [.tmp 2]) [.blk 0, .seq (f29r25.seq .ret)] (.loop [17, 16, 15, 3, 4] f29b24) [(17, .int .i64 i), (16, .int .i64 l.length), (15, jl l), (3, .mp 0), (4, .mp 1)] (.obj (.mp kv1) :: .obj (.mp kv2) :: Z) = some (.int .i64 (vl N S (l.drop i)), [])
  | 0, i, kv1, kv2, N, S, Z, h, h1, h2 => by
    obtain rfl : i = l.length := by omega
    rw [run_loopD _ _ f29b24_eq]
    simp [vl]
  | k + 1, i, kv1, kv2, N, S, Z, h, h1, h2 => by
    have hi : i < l.length := by omega
    have hbi := hb _ (List.getElem_mem hi)
    have hwi := hw _ (List.getElem_mem hi)
    have ih := fun (kv1 kv2 : List (Int × AV)) (Z : List AO) (h1 : Holds kv1 (l[i].num :: N)) (h2 : Holds kv2 (l[i].pids.reverse ++ S)) => t29 l hl hb hw k (i + 1) kv1 kv2 (l[i].num :: N) (l[i].pids.reverse ++ S) Z (by omega) h1 h2
    simp only [Int.natCast_succ] at ih
    have ws := wrapS i (by omega)
    have e1 := c70 l[i] hbi hwi
    have e2 := c64 l[i].stats hbi.2 hwi
    have g1 := h1 l[i].num
    have ih2 := ih (mset kv1 l[i].num (.bool true)) (kvPut kv2 l[i].pids) (Z ++ [.box 42 7 (encJ l[i])]) (h1.put _) h2.puts
    rw [run_loopD _ _ f29b24_eq, drop_step hi]
    simp only [vl]
    generalize shape l[i] = s at e1 ⊢
    by_cases s0 : s = 0
    · subst s0
      by_cases hn : l[i].num ∈ N
      · simp [hn] at g1
        simp [hi, e1, g1, hn, -List.getElem_cons_drop, -List.map_drop]
      · simp [hn] at g1
        have hT : run tbl (.cl [.tmp 2]) [.blk 1, .seq f29r23, .lp [17, 16, 15, 3, 4] f29b24, .blk 0, .seq (f29r25.seq .ret)] (f29r21.seq (.cond (.t 51) (f29r22.seq .ret) .skip))
            [(37, .bool false), (4, .mp 1), (34, il l[i].pids), (6, .bptr (Z.length + 1 + 1) 0), (3, .mp 0), (15, jl l), (16, .int .i64 l.length), (17, .int .i64 i), (35, .int .i64 l[i].pids.length), (36, .int .i64 l[i].pids.length)] (.obj (.mp (mset kv1 l[i].num (.bool true))) :: .obj (.mp (kvPut kv2 l[i].pids)) :: (Z ++ [.box 42 7 (encJ l[i])])) =
            some (.int .i64 (if ¬ l[i].state = stL l[i].stats false then 25 else vl (l[i].num :: N) (l[i].pids.reverse ++ S) (l.drop (i + 1))), []) := by
          generalize stL l[i].stats false = t at e2 ⊢
          by_cases ht : l[i].state = t
          · simp [e2, ht, ws, ih2]
          · simp [e2, ht]
        have hI := t29i _ _ l[i].pids hbi.1 l.length i 0 (jl l) (.mp 0) (.bptr (Z.length + 1 + 1) 0) (mset kv1 l[i].num (.bool true)) (Z ++ [.box 42 7 (encJ l[i])]) l[i].pids 0 kv2 S _ rfl (by simp) h2 hT
        rw [show ((0 : Nat) : Int) = 0 from rfl] at hI
        by_cases hd : dupP S l[i].pids = true
        · rw [if_pos hd] at hI
          simp [hi, e1, g1, hn, hI, hd, -List.getElem_cons_drop, -List.map_drop]
        · rw [if_neg hd] at hI
          simp [hi, e1, g1, hn, hI, hd, -List.getElem_cons_drop, -List.map_drop]
    · simp [hi, e1, s0, -List.getElem_cons_drop, -List.map_drop]
theorem c29 (l : List Jb) (hl : l.length ≤ 1000000) (hb : ∀ j ∈ l, BJ j) (hw : ∀ j ∈ l, WJ j) : callW tbl 29 [jl l] = some (.int .i64 (if 32 < l.length then 4 else vl [] [] l), []) := by
  rw [call_run tbl (f := 29) (fn := f29) rfl _ rfl]
  have h := t29 l hl hb hw l.length 0 [] [] [] [] [] (by omega) Holds.nil Holds.nil
  simp at h
  by_cases h1 : 32 < l.length
  · simp [f29, f29body, h1, show (32 : Int) < l.length by omega]
  · simp [f29, f29body, h1, show ¬ (32 : Int) < l.length by omega, h]
/- the reference -/
def goodB : List Int → List Int → Bool
  | [], _ => true
  | _ :: _, [] => true
  | p :: r, n :: q => numB p && okB n && goodB r q
theorem t71a (T : IC) (bl : AV) (j : Jb) (hb : BJ j) (hls : j.stats.length = j.pids.length) (X : Int) (hX : run tbl (.cl [.tmp 4]) [] T [(44, .bool false), (3, .bptr 0 0), (0, bl), (5, .int .i64 j.pids.length)] [.box 42 7 (encJ j)] = some (.int .i64 X, [])) :
    ∀ (k i : Nat), i + k = j.pids.length → run tbl (.cl [.tmp 4]) [.blk 0, .seq T] (.loop [0, 3, 5] f71b10) [(0, bl), (3, .bptr 0 0), (5, .int .i64 i)] [.box 42 7 (encJ j)] = some (.int .i64 (if goodB (j.pids.drop i) (j.stats.drop i) = true then X else 1), [])
  | 0, i, h => by
    obtain rfl : i = j.pids.length := by omega
    rw [run_loopD _ _ f71b10_eq]
    simp [hX, goodB]
  | k + 1, i, h => by
    have hi : i < j.pids.length := by omega
    have hi2 : i < j.stats.length := by omega
    have L1 : j.pids.length ≤ 1000000 := hb.1
    have ih := t71a T bl j hb hls X hX k (i + 1) (by omega)
    rw [Int.natCast_succ] at ih
    have ws := wrapS i (by omega)
    have e1 := c40 j.pids[i]
    have e2 := c84 j.stats[i]
    have e3 := c85 j.stats[i]
    rw [run_loopD _ _ f71b10_eq, drop_step hi, drop_step hi2]
    have hG : ∀ p n a b, goodB (p :: a) (n :: b) = (numB p && okB n && goodB a b) := fun _ _ _ _ => rfl
    rw [hG]
    generalize hsn : j.stats[i] = n at e2 e3 ⊢
    have hok : okB n = (decide (n = -1) || decide (kd n = 0) || decide (kd n = 1) || decide (kd n = 2)) := rfl
    have hen : endB n = (decide (kd n = 0) || decide (kd n = 1)) := rfl
    rw [hok]
    rw [hen] at e2
    generalize kd n = q at e2 e3 ⊢
    cases hn : numB j.pids[i]
    · rw [hn] at e1
      simp [hi, hi2, e1, -List.getElem_cons_drop, -List.map_drop]
    · rw [hn] at e1
      by_cases h1 : n = -1
      · subst h1
        simp [hi, hi2, hsn, e1, ws, ih, -List.getElem_cons_drop, -List.map_drop]
      · by_cases k0 : q = 0
        · simp [k0] at e2 e3
          simp [hi, hi2, hsn, e1, e2, e3, h1, k0, ws, ih, -List.getElem_cons_drop, -List.map_drop]
        · by_cases k1 : q = 1
          · simp [k1] at e2 e3
            simp [hi, hi2, hsn, e1, e2, e3, h1, k1, ws, ih, -List.getElem_cons_drop, -List.map_drop]
          · by_cases k2 : q = 2
            · simp [k2] at e2 e3
              simp [hi, hi2, hsn, e1, e2, e3, h1, k2, ws, ih, -List.getElem_cons_drop, -List.map_drop]
            · simp [k0, k1, k2] at e2 e3
              simp [hi, hi2, hsn, e1, e2, e3, h1, k0, k1, k2, -List.getElem_cons_drop, -List.map_drop]
/-- one of the first is met again, or belongs to a job before -/
def dupR (b : List Jb) (l : List Int) : Nat → Nat → Bool
  | 0, _ => false
  | k + 1, i => match l[i]? with
    | none => false
    | some p => memB p b || decide (p ∈ l.take i) || dupR b l k (i + 1)
theorem t71b (T : IC) (b : List Jb) (hbl : b.length ≤ 1000000) (hbb : ∀ j ∈ b, BJ j) (j : Jb) (hb : BJ j) (X : Int) (hX : run tbl (.cl [.tmp 4]) [] T [(89, .bool false), (3, .bptr 0 0), (0, jl b), (6, .int .i64 j.pids.length)] [.box 42 7 (encJ j)] = some (.int .i64 X, [])) :
    ∀ (k i : Nat), i + k = j.pids.length → run tbl (.cl [.tmp 4]) [.blk 2, .seq T] (.loop [0, 3, 6] f71b18) [(0, jl b), (3, .bptr 0 0), (6, .int .i64 i)] [.box 42 7 (encJ j)] = some (.int .i64 (if dupR b j.pids k i = true then 9 else X), [])
  | 0, i, h => by
    obtain rfl : i = j.pids.length := by omega
    rw [run_loopD _ _ f71b18_eq]
    simp [hX, dupR]
  | k + 1, i, h => by
    have hi : i < j.pids.length := by omega
    have L1 : j.pids.length ≤ 1000000 := hb.1
    have ih := t71b T b hbl hbb j hb X hX k (i + 1) (by omega)
    rw [Int.natCast_succ] at ih
    have ws := wrapS i (by omega)
    have hg : j.pids[i]? = some j.pids[i] := List.getElem?_eq_getElem hi
    have e1 := c42 j.pids[i] b hbl hbb
    have e2 := c41 j.pids[i] (j.pids.take i) (by simp; omega)
    have hs : (im j.pids).take i = im (j.pids.take i) := by simp
    rw [run_loopD _ _ f71b18_eq]
    simp only [dupR, hg]
    generalize hp : j.pids[i] = p at e1 e2 ⊢
    cases hm : memB p b
    · rw [hm] at e1
      by_cases ht : p ∈ j.pids.take i
      · simp [ht] at e2
        simp [hi, hp, e1, e2, ht, show i ≤ j.pids.length by omega, hs, -List.map_take]
      · simp [ht] at e2
        simp [hi, hp, e1, e2, ht, ws, ih, show i ≤ j.pids.length by omega, hs, -List.map_take]
    · rw [hm] at e1
      simp [hi, hp, e1]
def oneR (b : List Jb) (j : Jb) : Int := if headB j = false then 1 else if 4096 < j.text.length then 3 else if goodB j.pids j.stats = false then 1 else if ¬ nmN j.num b 0 = none then 9 else if dupR b j.pids j.pids.length 0 = true then 9 else if ¬ j.state = rst j.stats true false then 25 else 0
theorem c71 (b : List Jb) (j : Jb) (hbl : b.length ≤ 1000000) (hbb : ∀ j ∈ b, BJ j) (hb : BJ j) : callW tbl 71 [jl b, encJ j] = some (.int .i64 (oneR b j), []) := by
  rw [call_run tbl (f := 71) (fn := f71) rfl _ rfl]
  have e1 := c40 j.pgid
  have e2 := c43 j.num b hbl
  have e3 := c67 j.stats hb.2
  unfold oneR headB
  by_cases h1 : 1 ≤ j.num
  case neg => simp [f71, f71body, h1, show j.num < 1 by omega]
  by_cases h2 : j.num ≤ 32
  case neg => simp [f71, f71body, h1, h2, show ¬ j.num < 1 by omega, show 32 < j.num by omega]
  cases h3 : numB j.pgid
  · rw [h3] at e1
    simp [f71, f71body, h1, h2, e1, show ¬ j.num < 1 by omega, show ¬ 32 < j.num by omega]
  rw [h3] at e1
  by_cases h4 : j.pids.length = 0
  · have h4' : j.pids = [] := List.length_eq_zero_iff.1 h4
    simp [f71, f71body, h1, h2, e1, h4', show ¬ j.num < 1 by omega, show ¬ 32 < j.num by omega]
  have h4' : ¬ j.pids = [] := fun e => h4 (by simp [e])
  by_cases h5 : j.stats.length = j.pids.length
  case neg =>
    have h5' : ¬ (j.stats.length : Int) = j.pids.length := by omega
    simp [f71, f71body, h1, h2, e1, h4, h4', h5, h5', show ¬ j.num < 1 by omega, show ¬ 32 < j.num by omega]
  by_cases h6 : 4096 < j.text.length
  · simp [f71, f71body, h1, h2, e1, h4, h4', h5, h6, show ¬ j.num < 1 by omega, show ¬ 32 < j.num by omega, show (4096 : Int) < j.text.length by omega]
  have hT2 : run tbl (.cl [.tmp 4]) [] (.seq (.seq f71r19 (.cond (.t 116) (.seq f71r20 .ret) .skip)) (.seq f71r21 .ret)) [(89, .bool false), (3, .bptr 0 0), (0, jl b), (6, .int .i64 j.pids.length)] [.box 42 7 (encJ j)] = some (.int .i64 (if ¬ j.state = rst j.stats true false then 25 else 0), []) := by
    generalize rst j.stats true false = t at e3 ⊢
    by_cases ht : j.state = t
    · simp [e3, ht]
    · simp [e3, ht]
  have hB := t71b _ b hbl hbb j hb _ hT2 j.pids.length 0 (by omega)
  rw [show ((0 : Nat) : Int) = 0 from rfl] at hB
  have hT1 : run tbl (.cl [.tmp 4]) [] (.seq (.seq f71r11 (.cond (.t 84) (.seq f71r12 .ret) .skip)) (.seq (.seq f71r13 (.block 2 (.loop [0, 3, 6] f71b18))) (.seq (.seq f71r19 (.cond (.t 116) (.seq f71r20 .ret) .skip)) (.seq f71r21 .ret)))) [(44, .bool false), (3, .bptr 0 0), (0, jl b), (5, .int .i64 j.pids.length)] [.box 42 7 (encJ j)] =
      some (.int .i64 (if ¬ nmN j.num b 0 = none then 9 else if dupR b j.pids j.pids.length 0 = true then 9 else if ¬ j.state = rst j.stats true false then 25 else 0), []) := by
    cases hn : nmN j.num b 0 with
    | none => rw [hn] at e2; simp only [oi] at e2; simp [e2, hB]
    | some i => rw [hn] at e2; simp only [oi] at e2; simp [e2]
  have hA := t71a _ (jl b) j hb h5 _ hT1 j.pids.length 0 (by omega)
  rw [show ((0 : Nat) : Int) = 0 from rfl, List.drop_zero, List.drop_zero] at hA
  cases hg : goodB j.pids j.stats
  · rw [hg] at hA
    simp [f71, f71body, h1, h2, e1, h4, h4', h5, h6, show ¬ j.num < 1 by omega, show ¬ 32 < j.num by omega, show ¬ (4096 : Int) < j.text.length by omega, hA]
  · rw [hg] at hA
    simp [f71, f71body, h1, h2, e1, h4, h4', h5, h6, show ¬ j.num < 1 by omega, show ¬ 32 < j.num by omega, show ¬ (4096 : Int) < j.text.length by omega, hA]
/-- Valid of the reference -/
def vr (l : List Jb) : Nat → Nat → Int
  | 0, _ => 0
  | k + 1, i => match l[i]? with
    | none => 0
    | some j => if ¬ oneR (l.take i) j = 0 then oneR (l.take i) j else vr l k (i + 1)
theorem t30 (l : List Jb) (hl : l.length ≤ 1000000) (hb : ∀ j ∈ l, BJ j) : ∀ (k i : Nat), i + k = l.length → run tbl (.cl [.tmp 2]) [.blk 0, .seq (f30r10.seq .ret)] (.loop [0, 3] f30b9) [(0, jl l), (3, .int .i64 i)] [] = some (.int .i64 (vr l k i), [])
  | 0, i, h => by
    rw [run_loopD _ _ f30b9_eq]
    simp [show i = l.length by omega, vr]
  | k + 1, i, h => by
    have hi : i < l.length := by omega
    have ih := t30 l hl hb k (i + 1) (by omega)
    rw [Int.natCast_succ] at ih
    have ws := wrapS i (by omega)
    have hg : l[i]? = some l[i] := List.getElem?_eq_getElem hi
    have e1 := c71 (l.take i) l[i] (by simp; omega) (fun j hj => hb j (List.mem_of_mem_take hj)) (hb _ (List.getElem_mem hi))
    have hs : (l.map encJ).take i = (l.take i).map encJ := by simp
    rw [run_loopD _ _ f30b9_eq]
    simp only [vr, hg]
    generalize oneR (l.take i) l[i] = o at e1 ⊢
    by_cases h0 : o = 0
    · simp [hi, e1, h0, ws, ih, hs, show i ≤ l.length by omega, -List.map_take]
    · simp [hi, e1, h0, hs, show i ≤ l.length by omega, -List.map_take]
theorem c30 (l : List Jb) (hl : l.length ≤ 1000000) (hb : ∀ j ∈ l, BJ j) : callW tbl 30 [jl l] = some (.int .i64 (if 32 < l.length then 4 else vr l l.length 0), []) := by
  rw [call_run tbl (f := 30) (fn := f30) rfl _ rfl]
  have h := t30 l hl hb l.length 0 (by omega)
  simp at h
  by_cases h1 : 32 < l.length
  · simp [f30, f30body, h1, show (32 : Int) < l.length by omega]
  · simp [f30, f30body, h1, show ¬ (32 : Int) < l.length by omega, h]
end Go.Proofs.YtpphfbfmoipoaaaDoor
