/- Jobs: News on both sides; every operation keeps the list valid; what News leaves; the law JobsStay. No condition. -/
import Derived.Test.YtpphfbfmoipoaaaDoorJm
import Derived.Test.YtpphfbfmoipoaaaDoorJn
import Derived.Test.YtpphfbfmoipoaaaDoorJp
namespace Go.Proofs.YtpphfbfmoipoaaaDoor
open Go.PI
set_option maxRecDepth 100000
set_option maxHeartbeats 8000000
set_option linter.unusedSimpArgs false
def nJ : List Jb → List Jb
  | [] => []
  | j :: r => if j.state = 3 then nJ r else { j with noted := true } :: nJ r
def nT (l : List Jb) : Nat → Nat → List (List UInt8)
  | 0, _ => []
  | k + 1, i => match l[i]? with
    | none => []
    | some j => if j.noted = true then nT l k (i + 1) else lnS l i false :: nT l k (i + 1)
abbrev FN : Fin := .cl [.tmp 2, .tmp 3]
def outN (a : List Jb) (b : List (List UInt8)) : AV × List AO := (.tup [.ref 0 0 0 a.length, .ref 1 0 0 b.length], [.row 42 7 0 (a.map encJ), .row 9 1 0 (b.map .str)])
theorem t23 (l : List Jb) (hl : l.length ≤ 1000000) (hb : ∀ j ∈ l, BJ j) (hw : ∀ j ∈ l, WJ j) (hs : ∀ j ∈ l, SJ j) : ∀ (k i : Nat) (A : List Jb) (B : List (List UInt8)) (Z : List AO), i + k = l.length → A.length ≤ i → B.length ≤ i →
    run tbl FN [.blk 0, .seq (f23r13.seq .ret)] (.loop [5, 4, 11, 10, 9, 0] f23b12) [(5, .ref 3 B.length 0 B.length), (4, .ref 2 A.length 0 A.length), (11, .int .i64 i), (10, .int .i64 l.length), (9, .ref 4 0 0 l.length), (0, jl l)]
      (.row 42 7 0 [] :: .row 9 1 0 [] :: .row 42 7 A.length (A.map encJ) :: .row 9 1 B.length (B.map .str) :: .row 42 7 0 (l.map encJ) :: Z) = some (outN (A ++ nJ (l.drop i)) (B ++ nT l k i))
  | 0, i, A, B, Z, h, hA, hB => by
    obtain rfl : i = l.length := by omega
    rw [run_loopD _ _ f23b12_eq]
    simp [nJ, nT, outN]
    skip
  | k + 1, i, A, B, Z, h, hA, hB => by
    have hi : i < l.length := by omega
    have ws := wrapS i (by omega)
    have ih := fun (A' : List Jb) (B' : List (List UInt8)) (Z' : List AO) (h1 : A'.length ≤ i + 1) (h2 : B'.length ≤ i + 1) => t23 l hl hb hw hs k (i + 1) A' B' Z' (by omega) h1 h2
    rw [Int.natCast_succ] at ih
    have e1 := c18 l hl hb hw hs i false
    rw [drop_step hi]
    have hL : l[i]? = some l[i] := List.getElem?_eq_getElem hi
    have hT : nT l (k + 1) i = if l[i].noted = true then nT l k (i + 1) else lnS l i false :: nT l k (i + 1) := by simp only [nT, hL]
    rw [hT]
    generalize hj : l[i] = j
    have hg : (l.map encJ)[i]? = some (encJ j) := by rw [List.getElem?_map, hL, hj]; rfl
    rw [run_loopD _ _ f23b12_eq]
    simp only [nJ]
    by_cases hn : j.noted = true
    · by_cases h3 : j.state = 3
      · have i1 := fun Z' => ih A B Z' (by omega) (by omega)
        simp [hi, hj, hg, hn, h3, ws, i1, -List.getElem_cons_drop, -List.map_drop]
      · have i1 := fun Z' => ih (A ++ [{ j with noted := true }]) B Z' (by simp; omega) (by omega)
        simp [encJ] at i1
        simp [hi, hj, hg, hn, h3, ws, i1, encJ, show A.length ≤ 1073741823 by omega, -List.getElem_cons_drop, -List.map_drop]
    · have hn' : j.noted = false := by simpa using hn
      by_cases h3 : j.state = 3
      · have i1 := fun Z' => ih A (B ++ [lnS l i false]) Z' (by omega) (by simp; omega)
        simp at i1
        simp [hi, hj, hg, hn', h3, ws, e1, i1, show B.length ≤ 1073741823 by omega, -List.getElem_cons_drop, -List.map_drop]
      · have i1 := fun Z' => ih (A ++ [{ j with noted := true }]) (B ++ [lnS l i false]) Z' (by simp; omega) (by simp; omega)
        simp [encJ] at i1
        simp [hi, hj, hg, hn', h3, ws, e1, i1, encJ, show A.length ≤ 1073741823 by omega, show B.length ≤ 1073741823 by omega, -List.getElem_cons_drop, -List.map_drop]
theorem c23 (l : List Jb) (hl : l.length ≤ 1000000) (hb : ∀ j ∈ l, BJ j) (hw : ∀ j ∈ l, WJ j) (hs : ∀ j ∈ l, SJ j) : callW tbl 23 [jl l] = some (outN (nJ l) (nT l l.length 0)) := by
  rw [call_run tbl (f := 23) (fn := f23) rfl _ rfl]
  have e := c39 l hl hb
  have h := t23 l hl hb hw hs l.length 0 [] [] [] (by omega) (by simp) (by simp)
  simp at h
  simp [f23, f23body, e, h]
theorem t24 (l : List Jb) (hl : l.length ≤ 1000000) (hb : ∀ j ∈ l, BJ j) (hs : ∀ j ∈ l, SJ j) : ∀ (k i : Nat) (A : List Jb) (B : List (List UInt8)) (Z : List AO), i + k = l.length → A.length ≤ i → B.length ≤ i →
    run tbl FN [.blk 0, .seq (f24r13.seq .ret)] (.loop [5, 4, 6, 0] f24b12) [(5, .ref 3 B.length 0 B.length), (4, .ref 2 A.length 0 A.length), (6, .int .i64 i), (0, jl l)]
      (.row 42 7 0 [] :: .row 9 1 0 [] :: .row 42 7 A.length (A.map encJ) :: .row 9 1 B.length (B.map .str) :: Z) = some (outN (A ++ nJ (l.drop i)) (B ++ nT l k i))
  | 0, i, A, B, Z, h, hA, hB => by
    obtain rfl : i = l.length := by omega
    rw [run_loopD _ _ f24b12_eq]
    simp [nJ, nT, outN]
  | k + 1, i, A, B, Z, h, hA, hB => by
    have hi : i < l.length := by omega
    have ws := wrapS i (by omega)
    have ih := fun (A' : List Jb) (B' : List (List UInt8)) (Z' : List AO) (h1 : A'.length ≤ i + 1) (h2 : B'.length ≤ i + 1) => t24 l hl hb hs k (i + 1) A' B' Z' (by omega) h1 h2
    rw [Int.natCast_succ] at ih
    have e1 := c19 l hl hb hs i false
    rw [drop_step hi]
    have hL : l[i]? = some l[i] := List.getElem?_eq_getElem hi
    have hT : nT l (k + 1) i = if l[i].noted = true then nT l k (i + 1) else lnS l i false :: nT l k (i + 1) := by simp only [nT, hL]
    rw [hT]
    generalize hj : l[i] = j
    have hg : (l.map encJ)[i]? = some (encJ j) := by rw [List.getElem?_map, hL, hj]; rfl
    rw [run_loopD _ _ f24b12_eq]
    simp only [nJ]
    by_cases hn : j.noted = true
    · by_cases h3 : j.state = 3
      · have i1 := fun Z' => ih A B Z' (by omega) (by omega)
        simp [hi, hj, hg, hn, h3, ws, i1, -List.getElem_cons_drop, -List.map_drop]
      · have i1 := fun Z' => ih (A ++ [{ j with noted := true }]) B Z' (by simp; omega) (by omega)
        simp [encJ] at i1
        simp [hi, hj, hg, hn, h3, ws, i1, encJ, show A.length ≤ 1073741823 by omega, -List.getElem_cons_drop, -List.map_drop]
    · have hn' : j.noted = false := by simpa using hn
      by_cases h3 : j.state = 3
      · have i1 := fun Z' => ih A (B ++ [lnS l i false]) Z' (by omega) (by simp; omega)
        simp at i1
        simp [hi, hj, hg, hn', h3, ws, e1, i1, show B.length ≤ 1073741823 by omega, -List.getElem_cons_drop, -List.map_drop]
      · have i1 := fun Z' => ih (A ++ [{ j with noted := true }]) (B ++ [lnS l i false]) Z' (by simp; omega) (by simp; omega)
        simp [encJ] at i1
        simp [hi, hj, hg, hn', h3, ws, e1, i1, encJ, show A.length ≤ 1073741823 by omega, show B.length ≤ 1073741823 by omega, -List.getElem_cons_drop, -List.map_drop]
theorem c24 (l : List Jb) (hl : l.length ≤ 1000000) (hb : ∀ j ∈ l, BJ j) (hs : ∀ j ∈ l, SJ j) : callW tbl 24 [jl l] = some (outN (nJ l) (nT l l.length 0)) := by
  rw [call_run tbl (f := 24) (fn := f24) rfl _ rfl]
  have h := t24 l hl hb hs l.length 0 [] [] [] (by omega) (by simp) (by simp)
  simp at h
  simp [f24, f24body, h]
theorem t25 (b : List (List UInt8)) (hb : b.length ≤ 1000000) : ∀ (k i : Nat), i + k = b.length → run tbl (.cl [.tmp 4]) [.blk 0, .seq (f25r9.seq .ret)] (.loop [0, 1, 5] f25b8) [(0, .sl 1 (b.map .str)), (1, .sl 1 (b.map .str)), (5, .int .i64 i)] [] = some (.bool true, [])
  | 0, i, h => by
    obtain rfl : i = b.length := by omega
    rw [run_loopD _ _ f25b8_eq]
    simp
  | k + 1, i, h => by
    have hi : i < b.length := by omega
    have ih := t25 b hb k (i + 1) (by omega)
    rw [Int.natCast_succ] at ih
    have ws := wrapS i (by omega)
    rw [run_loopD _ _ f25b8_eq]
    simp [hi, ws, ih]
theorem c25 (b : List (List UInt8)) (hb : b.length ≤ 1000000) : callW tbl 25 [.sl 1 (b.map .str), .sl 1 (b.map .str)] = some (.bool true, []) := by
  rw [call_run tbl (f := 25) (fn := f25) rfl _ rfl]
  have h := t25 b hb b.length 0 (by omega)
  simp at h
  simp [f25, f25body, h]
theorem nJ_le (l : List Jb) : (nJ l).length ≤ l.length := by
  induction l with
  | nil => simp [nJ]
  | cons j r ih =>
    simp only [nJ]
    split <;> simp <;> omega
theorem nT_le (l : List Jb) : ∀ (k i : Nat), (nT l k i).length ≤ k
  | 0, _ => by simp [nT]
  | k + 1, i => by
    have := nT_le l k (i + 1)
    simp only [nT]
    split
    · simp
    · split <;> simp <;> omega
theorem nJ_bj {l : List Jb} (h : ∀ j ∈ l, BJ j) : ∀ j ∈ nJ l, BJ j := by
  induction l with
  | nil => simp [nJ]
  | cons j r ih =>
    have ih := ih (fun x hx => h x (by simp [hx]))
    simp only [nJ]
    split
    · exact ih
    · intro x hx
      rcases List.mem_cons.1 hx with rfl | hx
      · exact h j (by simp)
      · exact ih x hx
theorem good_small {j : Jb} (g : Good j) : SJ j := by
  have := numB_iff.1 g.g
  have h1 := g.n1
  have h2 := g.n2
  have h3 := g.tx
  exact ⟨by omega, by omega, by omega, by omega, by omega⟩
theorem memB_iff (p : Int) : ∀ l : List Jb, memB p l = true ↔ p ∈ l.flatMap (·.pids)
  | [] => by simp [memB]
  | j :: r => by
    have ih := memB_iff p r
    simp [memB, ih]
/-- a list that the operations leave -/
structure OkS (l : List Jb) : Prop where
  ok : Ok l
  pl : ∀ j ∈ l, j.pids.length ≤ 2
theorem OkS.len {l : List Jb} (h : OkS l) : l.length ≤ 1000000 := by have := h.ok.len; omega
theorem OkS.bj {l : List Jb} (h : OkS l) : ∀ j ∈ l, BJ j := fun j hj => by
  have h1 := h.pl j hj
  have h2 := (h.ok.good hj).ls
  exact ⟨by omega, by omega⟩
theorem OkS.wj {l : List Jb} (h : OkS l) : ∀ j ∈ l, WJ j := fun _ hj => (h.ok.good hj).wj
theorem OkS.sj {l : List Jb} (h : OkS l) : ∀ j ∈ l, SJ j := fun _ hj => good_small (h.ok.good hj)
theorem OkS.ls {l : List Jb} (h : OkS l) : ∀ j ∈ l, j.stats.length = j.pids.length := fun _ hj => (h.ok.good hj).ls
theorem OkS.mem {l : List Jb} (h : OkS l) (p : Int) : memO p l 0 = none ↔ memB p l = false := memO_none h.ls
/- Add -/
theorem num_le (l : List Jb) : num l ≤ l.length + 1 := by
  have hs : ∀ x ∈ (List.range (num l - 1)).map (fun i => ((i + 1 : Nat) : Int)), x ∈ l.map (·.num) := by
    intro x hx
    obtain ⟨i, hi, rfl⟩ := List.mem_map.1 hx
    have hi := List.mem_range.1 hi
    have := nxt_used l (l.length + 1) 1 (i + 1) (by omega) (by unfold num at hi; omega)
    rw [nm_iff] at this
    by_cases hq : ∃ j ∈ l, j.num = ((i + 1 : Nat) : Int)
    · obtain ⟨j, hj, he⟩ := hq
      exact List.mem_map.2 ⟨j, hj, he⟩
    · exact absurd (fun j hj he => hq ⟨j, hj, he⟩) this
  have hn : ((List.range (num l - 1)).map (fun i => ((i + 1 : Nat) : Int))).Nodup := by
    rw [List.nodup_iff_pairwise_ne, List.pairwise_map]
    exact (List.pairwise_lt_range).imp (fun h => by omega)
  have := len_le_of_subset _ _ hn hs
  simp at this
  omega
theorem stL_new : ∀ n : Nat, stL (List.replicate (n + 1) (-1)) false = 1 := by
  intro n
  rw [List.replicate_succ]
  have h0 : kd (-1) = -1 := by decide
  simp only [stL, h0]
  rw [if_neg (by omega), if_neg (by omega)]
theorem ok_add {l : List Jb} (o : OkS l) {g : Int} {ps : List Int} {t : List UInt8} (hp : ps.length ≤ 2) (h : addE l g ps t = 0) : OkS (l ++ [newJ l g ps t]) := by
  unfold addE at h
  by_cases h1 : 32 ≤ l.length
  · rw [if_pos h1] at h; omega
  rw [if_neg h1] at h
  by_cases h2 : numB g = false ∨ ps = []
  · rw [if_pos h2] at h; omega
  rw [if_neg h2] at h
  by_cases h3 : ps.all numB = false
  · rw [if_pos h3] at h; omega
  rw [if_neg h3] at h
  by_cases h4 : dupR l ps ps.length 0 = true
  · rw [if_pos h4] at h; omega
  rw [if_neg h4] at h
  by_cases h5 : 4096 < t.length
  · rw [if_pos h5] at h; omega
  have hg : numB g = true := by
    cases hq : numB g with
    | true => rfl
    | false => exact absurd (.inl hq) h2
  have hne : ps ≠ [] := fun e => h2 (.inr e)
  have hall : ps.all numB = true := by simpa using h3
  have hdup : dupR l ps ps.length 0 = false := by simpa using h4
  have hd : dupP (l.flatMap (·.pids)) ps = false := by
    have := dup_eq l ps ps.length 0 (l.flatMap (·.pids)) (by omega) (fun p => by rw [memB_iff]; simp)
    rw [List.drop_zero, hdup] at this
    exact this
  obtain ⟨d1, d2⟩ := (dupP_iff _ _).1 hd
  have n1 : 1 ≤ num l := nxt_ge l _ 1
  have n2 := num_le l
  refine ⟨⟨?_, ?_, ?_, ?_⟩, ?_⟩
  · simp; omega
  · intro j hj
    rcases List.mem_append.1 hj with hj | hj
    · exact o.ok.each j hj
    · rw [List.mem_singleton.1 hj]
      refine ⟨(shape_iff _).2 ⟨?_, ?_, hg, hne, ?_, ?_, ?_, ?_⟩, ?_⟩
      · show (1 : Int) ≤ (num l : Nat); omega
      · show ((num l : Nat) : Int) ≤ 32; omega
      · simp [newJ]
      · show t.length ≤ 4096; omega
      · exact List.all_eq_true.1 hall
      · intro n hn
        rw [List.eq_of_mem_replicate hn]; rfl
      · show (1 : Int) = stL (List.replicate ps.length (-1)) false
        obtain ⟨k, hk⟩ : ∃ k, ps.length = k + 1 := ⟨ps.length - 1, by have := List.length_pos_iff.2 hne; omega⟩
        rw [hk, stL_new]
  · rw [List.map_append, List.nodup_append]
    refine ⟨o.ok.nums, by simp, ?_⟩
    intro a ha b hb e
    simp only [List.map_cons, List.map_nil, List.mem_singleton] at hb
    obtain ⟨j, hj, rfl⟩ := List.mem_map.1 ha
    exact (nm_iff (num l) l 0).1 (num_free l) j hj (by rw [e, hb]; rfl)
  · rw [List.flatMap_append, List.nodup_append]
    refine ⟨o.ok.pids, by simpa [newJ] using d1, ?_⟩
    intro a ha b hb e
    have hb' : b ∈ ps := by simpa [newJ] using hb
    exact d2 b hb' (e ▸ ha)
  · intro j hj
    rcases List.mem_append.1 hj with hj | hj
    · exact o.pl j hj
    · rw [List.mem_singleton.1 hj]; exact hp
/- Update -/
theorem out_perm (p w : Int) : ∀ l : List Jb, (outF p w l ++ mvF p w l).Perm (l.map (chgU p w))
  | [] => .nil
  | j :: r => by
    have ih := out_perm p w r
    simp only [outF, mvF, List.map_cons]
    split
    · exact (List.perm_middle).trans (ih.cons _)
    · exact ih.cons _
theorem rsU_mem {p w : Int} : ∀ {a b : List Int} {n : Int}, n ∈ rsU p w a b → n = w ∨ n ∈ b
  | [], b, n, h => by simp [rsU] at h
  | _ :: _, [], n, h => by simp [rsU] at h
  | q :: a, s :: b, n, h => by
    simp only [rsU, List.mem_cons] at h
    rcases h with h | h
    · by_cases hq : q = p
      · rw [if_pos hq] at h; exact .inl h
      · rw [if_neg hq] at h; exact .inr (by simp [h])
    · rcases rsU_mem h with h | h
      · exact .inl h
      · exact .inr (by simp [h])
theorem chg_num (p w : Int) (j : Jb) : (chgU p w j).num = j.num := by unfold chgU; split <;> rfl
theorem chg_pids (p w : Int) (j : Jb) : (chgU p w j).pids = j.pids := by unfold chgU; split <;> rfl
theorem chg_ok {p w : Int} {j : Jb} (h : OkJ j) (hw : okB w = true) : OkJ (chgU p w j) := by
  unfold chgU
  split
  · have g := (shape_iff j).1 h.1
    have hs : ∀ n ∈ rsU p w j.pids j.stats, okB n = true := by
      intro n hn
      rcases rsU_mem hn with h | h
      · rw [h]; exact hw
      · exact g.ss n h
    refine ⟨(shape_iff _).2 ⟨g.n1, g.n2, g.g, g.ne, rsU_len p w _ _ g.ls, g.tx, g.ps, hs⟩, ?_⟩
    exact rst_stL _ false (List.all_eq_true.2 hs)
  · exact h
theorem ok_upd {l r : List Jb} (o : OkS l) {p w : Int} (h : outR l p w = some r) : OkS r := by
  unfold outR at h
  split at h
  · cases h
  rename_i hk
  have hk' : ¬ kd w < 0 := fun e => hk (.inl e)
  have hw := okW w hk'
  generalize (if kd w = 3 then -1 else w) = W at h hw
  injection h with h
  have hp := out_perm p W l
  rw [h] at hp
  have hmem : ∀ j ∈ r, ∃ x ∈ l, chgU p W x = j := fun j hj => List.mem_map.1 (hp.mem_iff.1 hj)
  refine ⟨⟨?_, ?_, ?_, ?_⟩, ?_⟩
  · have := hp.length_eq
    have h2 := o.ok.len
    simp at this
    omega
  · intro j hj
    obtain ⟨x, hx, rfl⟩ := hmem j hj
    exact chg_ok (o.ok.each x hx) hw
  · have := hp.map (·.num)
    rw [List.map_map] at this
    rw [this.nodup_iff]
    have e : l.map ((·.num) ∘ chgU p W) = l.map (·.num) := List.map_congr_left (fun j _ => chg_num p W j)
    rw [e]
    exact o.ok.nums
  · have := hp.flatMap_right (·.pids)
    rw [this.nodup_iff, List.flatMap_map]
    have e : (l.flatMap fun a => (chgU p W a).pids) = l.flatMap (·.pids) := by
      congr 1
      funext a
      exact chg_pids p W a
    rw [e]
    exact o.ok.pids
  · intro j hj
    obtain ⟨x, hx, rfl⟩ := hmem j hj
    rw [chg_pids]
    exact o.pl x hx
/- News -/
theorem nJ_mem {l : List Jb} {x : Jb} (h : x ∈ nJ l) : ∃ j ∈ l, x = { j with noted := true } := by
  induction l with
  | nil => simp [nJ] at h
  | cons j r ih =>
    simp only [nJ] at h
    split at h
    · obtain ⟨y, hy, e⟩ := ih h
      exact ⟨y, by simp [hy], e⟩
    · rcases List.mem_cons.1 h with rfl | h
      · exact ⟨j, by simp, rfl⟩
      · obtain ⟨y, hy, e⟩ := ih h
        exact ⟨y, by simp [hy], e⟩
theorem nJ_nums (l : List Jb) : ((nJ l).map (·.num)).Sublist (l.map (·.num)) := by
  induction l with
  | nil => exact .slnil
  | cons j r ih =>
    simp only [nJ]
    split
    · exact ih.cons _
    · exact ih.cons_cons _
theorem nJ_pids (l : List Jb) : ((nJ l).flatMap (·.pids)).Sublist (l.flatMap (·.pids)) := by
  induction l with
  | nil => exact .slnil
  | cons j r ih =>
    simp only [nJ]
    split
    · rw [List.flatMap_cons]
      exact ih.trans (List.sublist_append_right _ _)
    · rw [List.flatMap_cons, List.flatMap_cons]
      exact List.Sublist.append (List.Sublist.refl _) ih
theorem ok_news {l : List Jb} (o : OkS l) : OkS (nJ l) := by
  refine ⟨⟨?_, ?_, (nJ_nums l).nodup o.ok.nums, (nJ_pids l).nodup o.ok.pids⟩, ?_⟩
  · have := nJ_le l
    have := o.ok.len
    omega
  · intro x hx
    obtain ⟨j, hj, rfl⟩ := nJ_mem hx
    exact o.ok.each j hj
  · intro x hx
    obtain ⟨j, hj, rfl⟩ := nJ_mem hx
    exact o.pl j hj
def unn (l : List Jb) : Nat := (l.filter fun j => !j.noted).length
theorem unn_le (l : List Jb) : unn l ≤ l.length := List.length_filter_le _ _
theorem unn_nJ (l : List Jb) : unn (nJ l) = 0 := by
  unfold unn
  rw [List.length_eq_zero_iff, List.filter_eq_nil_iff]
  intro x hx
  obtain ⟨j, _, rfl⟩ := nJ_mem hx
  simp
theorem nT_len (l : List Jb) : ∀ (k i : Nat), i + k = l.length → (nT l k i).length = unn (l.drop i)
  | 0, i, h => by simp [nT, unn, show i = l.length by omega]
  | k + 1, i, h => by
    have hi : i < l.length := by omega
    have ih := nT_len l k (i + 1) (by omega)
    have hg : l[i]? = some l[i] := List.getElem?_eq_getElem hi
    rw [drop_step hi]
    simp only [nT, hg]
    unfold unn at ih ⊢
    cases hn : l[i].noted
    · simp [hn, ih, -List.getElem_cons_drop]
    · simp [hn, ih, -List.getElem_cons_drop]
theorem t32 (l : List Jb) (hl : l.length ≤ 1000000) : ∀ (k i : Nat), i + k = l.length → run tbl (.cl [.tmp 2]) [.blk 0, .seq (f32r8.seq .ret)] (.loop [3, 4, 0] f32b7) [(3, .int .i64 (unn (l.take i) : Nat)), (4, .int .i64 i), (0, jl l)] [] = some (.int .i64 (unn l : Nat), [])
  | 0, i, h => by
    obtain rfl : i = l.length := by omega
    rw [run_loopD _ _ f32b7_eq]
    simp
  | k + 1, i, h => by
    have hi : i < l.length := by omega
    have ih := t32 l hl k (i + 1) (by omega)
    have hu := unn_le (l.take i)
    have ht : (l.take i).length ≤ 1000000 := by simp; omega
    have e : unn (l.take (i + 1)) = unn (l.take i) + (if l[i].noted = true then 0 else 1) := by
      unfold unn
      rw [List.take_succ_eq_append_getElem hi, List.filter_append, List.length_append]
      cases hn : l[i].noted <;> simp [hn]
    rw [e] at ih
    have ws := wrapS i (by omega)
    have wu := wrapS (unn (l.take i)) (by omega)
    rw [run_loopD _ _ f32b7_eq]
    generalize unn (l.take i) = u at ih wu
    cases hn : l[i].noted
    · simp [hn] at ih
      simp [hi, hn, ws, wu, ih]
    · simp [hn] at ih
      simp [hi, hn, ws, ih]
theorem c32 (l : List Jb) (hl : l.length ≤ 1000000) : callW tbl 32 [jl l] = some (.int .i64 (unn l : Nat), []) := by
  rw [call_run tbl (f := 32) (fn := f32) rfl _ rfl]
  have h := t32 l hl l.length 0 (by omega)
  simp [unn] at h
  simp [f32, f32body, unn, h]
structure Op5 where
  kd : Int
  pid : Int
  st : Int
  text : List UInt8
abbrev encO (o : Op5) : AV := .agg [.int .i64 o.kd, .int .i64 o.pid, .int .i64 o.st, .str o.text]
/-- what an operation leaves -/
inductive Plays (l : List Jb) (kd : Int) : Option (AV × List AO) → Prop
  | same : kd = 0 ∨ kd = 1 → Plays l kd (some (.tup [jl l, .ref 0 0 0 0], [.row 9 1 0 []]))
  | row (R : List Jb) (B : List (List UInt8)) : OkS R → B.length ≤ 1000000 → (kd = 0 ∨ kd = 1 ∨ (¬ kd = 0 ∧ ¬ kd = 1 ∧ B.length = unn l ∧ unn R = 0)) → Plays l kd (some (.tup [.ref 0 0 0 R.length, .ref 1 0 0 B.length], [.row 42 7 0 (R.map encJ), .row 9 1 0 (B.map .str)]))
theorem c31 {l : List Jb} (h : OkS l) (o : Op5) (h1 : 1 ≤ o.pid) (h2 : o.pid ≤ 1000) (hw : o.st ≤ mx) : Plays l o.kd (callW tbl 31 [jl l, encO o]) := by
  obtain ⟨kd, pid, st, text⟩ := o
  simp only at h1 h2 hw ⊢
  rw [call_run tbl (f := 31) (fn := f31) rfl _ rfl]
  by_cases k0 : kd = 0
  · subst k0
    have ws : IntKind.i64.wrap (pid + 1) = pid + 1 := wrap64 _ (by omega) (by omega)
    have hc := c11 l h.len h.bj h.mem pid [pid, pid + 1] (by simp) text
    unfold outA at hc
    simp only [il, im, List.map_cons, List.map_nil] at hc
    by_cases e : addE l pid [pid, pid + 1] text = 0
    · have ok := ok_add h (ps := [pid, pid + 1]) (by simp) e
      rw [if_pos e] at hc
      simp only [okA] at hc
      generalize newJ l pid [pid, pid + 1] text = N at *
      have hp := Plays.row (l := l) (kd := 0) (l ++ [N]) [] ok (by simp) (.inl rfl)
      simp at hp
      have htk : List.take (l.length + 1) (l.map encJ ++ [encJ N]) = l.map encJ ++ [encJ N] := List.take_of_length_le (by simp)
      simp [f31, f31body, ws, hc, htk]
      exact hp
    · rw [if_neg e] at hc
      simp [f31, f31body, ws, hc]
      exact .same (.inl rfl)
  by_cases k1 : kd = 1
  · subst k1
    have hc := c21 l pid st (okU_iff.2 ⟨h.len, hw, fun j hj => ⟨h.bj j hj, h.wj j hj⟩⟩)
    rw [upd_ref h.ok] at hc
    cases e : outR l pid st with
    | none =>
      rw [e] at hc
      simp only [outU] at hc
      simp [f31, f31body, hc]
      exact .same (.inr rfl)
    | some R =>
      have ok := ok_upd h e
      rw [e] at hc
      simp only [outU] at hc
      have hp := Plays.row (l := l) (kd := 1) R [] ok (by simp) (.inr (.inl rfl))
      simp at hp
      simp [f31, f31body, hc]
      exact hp
  · have hc := c23 l h.len h.bj h.wj h.sj
    have ok := ok_news h
    have hn := nT_len l l.length 0 (by omega)
    have hL := h.ok.len
    have hn2 := nT_le l l.length 0
    simp only [outN] at hc
    simp [f31, f31body, k0, k1, hc]
    exact .row _ _ ok (by omega) (.inr (.inr ⟨k0, k1, by rw [hn, List.drop_zero], unn_nJ l⟩))
theorem getL {α : Type} {A Z : List α} {s : Nat} {x : α} (h : A[s]? = some x) : (A ++ Z)[s]? = some x := by
  have hs : s < A.length := by
    rcases Nat.lt_or_ge s A.length with h1 | h1
    · exact h1
    · rw [List.getElem?_eq_none h1] at h; cases h
  rw [List.getElem?_append_left hs, h]
/- the law's list -/
inductive IsT (Z : List AO) : AV → List Jb → Prop
  | sl (l : List Jb) : IsT Z (jl l) l
  | rw (id : Nat) (l : List Jb) : Z[id]? = some (.row 42 7 0 (l.map encJ)) → IsT Z (.ref id 0 0 l.length) l
  | fz (id : Nat) (l : List Jb) : Z[id]? = some (.fz 7 0 (l.map encJ)) → IsT Z (.ref id 0 0 l.length) l
theorem ops5 {c : AV} (h : HasTy (.sl true [.int .i64, .int .i64, .int .i64, .str]) c) : ∃ l : List Op5, c = .sl 4 (l.map encO) ∧ l.length ≤ maxLen ∧ ∀ x ∈ l, x.st ≤ mx :=
  HasTy.structs h (fun cs hl hj => by
    have h0 := Tys.of _ cs hl hj
    obtain ⟨_, _, rfl, k0, h0⟩ := h0.cons_inv
    obtain ⟨_, _, rfl, k1, h0⟩ := h0.cons_inv
    obtain ⟨_, _, rfl, k2, h0⟩ := h0.cons_inv
    obtain ⟨_, _, rfl, k3, h0⟩ := h0.cons_inv
    obtain rfl := h0.nil_inv
    obtain ⟨a, rfl, _⟩ := k0.int_inv
    obtain ⟨b, rfl, _⟩ := k1.int_inv
    obtain ⟨d, rfl, w⟩ := k2.int_inv
    obtain ⟨f, rfl, _⟩ := k3.str_inv
    exact ⟨⟨a, b, d, f⟩, rfl, (wf64 w).2⟩)
theorem cv29 {l : List Jb} (h : OkS l) : callW tbl 29 [jl l] = some (.int .i64 0, []) := by
  rw [c29 l h.len h.bj h.wj]
  have := (ok_iff l).2 h.ok
  unfold vld at this
  rw [this]
theorem end8 {l : List Jb} (h : OkS l) : ∃ A B C D, callW tbl 23 [jl l] = some (outN A B) ∧ callW tbl 23 [jl A] = some (outN C D) ∧ D.length = 0 ∧ A.length ≤ 1000000 := by
  have o := ok_news h
  refine ⟨_, _, _, _, c23 l h.len h.bj h.wj h.sj, c23 (nJ l) o.len o.bj o.wj o.sj, ?_, o.len⟩
  rw [nT_len _ _ _ (by omega), List.drop_zero, unn_nJ]
abbrev T8 : IC := .seq f8r15 (.seq f8r16 (.seq f8r17 .ret))
theorem t8 (sc : List Op5) (hs : sc.length ≤ 40) (hb : ∀ x ∈ sc, x.st ≤ mx) : ∀ (k j : Nat), j + k = sc.length → ∀ (l : List Jb) (v : AV) (Z : List AO), IsT Z v l → OkS l →
    run tbl (.cl [.tmp 2]) [.blk 0, .seq T8] (.loop [4, 0, 3] f8b14) [(4, .int .i64 j), (0, .sl 4 (sc.map encO)), (3, v)] Z = some (.bool true, [])
  | 0, j, h => by
    intro l v Z hv ok
    rw [run_loopD _ _ f8b14_eq]
    obtain ⟨A, B, C, D, e1, e2, hD, hA⟩ := end8 ok
    simp only [outN] at e1 e2
    have hD' : D = [] := List.length_eq_zero_iff.1 hD
    subst hD'
    cases hv with
    | sl => simp [show ¬ j < sc.length by omega, e1, e2, c10]
    | rw id l hz =>
      have hz1 := fun X => getL (Z := X) hz
      have hid : id < Z.length := by
        rcases Nat.lt_or_ge id Z.length with h1 | h1
        · exact h1
        · rw [List.getElem?_eq_none h1] at hz; cases hz
      simp [show ¬ j < sc.length by omega, hz, hz1, e1, e2, c10]
    | fz id l hz =>
      have hz1 := fun X => getL (Z := X) hz
      simp [show ¬ j < sc.length by omega, hz, hz1, e1, e2, c10]
  | k + 1, j, h => by
    intro l v Z hv ok
    have hj : j < sc.length := by omega
    have ih := t8 sc hs hb k (j + 1) (by omega)
    rw [Int.natCast_succ] at ih
    have ho := hb _ (List.getElem_mem hj)
    have hp0 := fun (h1 : 1 ≤ sc[j].pid) (h2 : sc[j].pid ≤ 1000) => c31 ok sc[j] h1 h2 ho
    have ws := wrapS j (by omega)
    rw [run_loopD _ _ f8b14_eq]
    generalize hq : sc[j] = q at hp0
    clear ho
    have hL := ok.ok.len
    have u1 := c32 l ok.len
    have v1 := cv29 ok
    by_cases p1 : q.pid < 1
    · cases hv <;> simp [hj, hq, p1, c10]
    by_cases p2 : 1000 < q.pid
    · cases hv <;> simp [hj, hq, p1, p2, c10]
    by_cases p3 : (100 : Int) < q.text.length
    · cases hv <;> simp [hj, hq, p1, p2, p3, c10]
    have hp := hp0 (by omega) (by omega)
    clear hp0
    obtain ⟨kd, pid, st, text⟩ := q
    simp only at p1 p2 p3 hp
    generalize hr : callW tbl 31 [jl l, encO ⟨kd, pid, st, text⟩] = r at hp
    cases hv with
    | sl =>
      cases hp with
      | same hk =>
        have ih := fun Z => ih l (jl l) Z (.sl l) ok
        rcases hk with hk | hk
        · subst hk
          simp [hj, hq, p1, p2, p3, hr, v1, ws, ih]
        · subst hk
          simp [hj, hq, p1, p2, p3, hr, v1, ws, ih]
      | row R B okR hB hk =>
        have v2 := cv29 okR
        have u2 := c32 R okR.len
        have hRL := okR.ok.len
        rcases hk with hk | hk | ⟨k0, k1, k2, k3⟩
        · subst hk
          simp [hj, hq, p1, p2, p3, hr, v2, ws]
          refine ih R _ _ (.rw _ R ?_) okR
          simp
        · subst hk
          simp [hj, hq, p1, p2, p3, hr, v2, ws]
          refine ih R _ _ (.rw _ R ?_) okR
          simp
        · rw [k3] at u2
          simp at u2
          simp [hj, hq, p1, p2, p3, hr, v2, u1, u2, k0, k1, k2, ws]
          refine ih R _ _ (.rw _ R ?_) okR
          simp
    | rw id l hz =>
      have hz1 := fun X => getL (Z := X) hz
      have hid : id < Z.length := by
        rcases Nat.lt_or_ge id Z.length with h1 | h1
        · exact h1
        · rw [List.getElem?_eq_none h1] at hz; cases hz
      have hz2 : ∀ (X : List AO) (v : AO), (Z ++ X).set id v = Z.set id v ++ X := fun X v => by rw [List.set_append, if_pos hid]
      have hz3 : ∀ (X : List AO) (v x : AO), (Z.set id v ++ x :: X)[Z.length]? = some x := fun X v x => by
        rw [List.getElem?_append_right (by simp)]; simp
      have hz5 : ∀ (X : List AO) (v : AO), (Z.set id v ++ X)[id]? = some v := fun X v => by
        rw [List.getElem?_append_left (by simpa using hid)]; simp [hid]
      have hz4 : ∀ (X : List AO) (v x y : AO), (Z.set id v ++ x :: y :: X)[Z.length + 1]? = some y := fun X v x y => by
        rw [List.getElem?_append_right (by simp)]; simp
      cases hp with
      | same hk =>
        have ih := fun Z => ih l (jl l) Z (.sl l) ok
        rcases hk with hk | hk
        · subst hk
          simp [hj, hq, p1, p2, p3, hz1, hz2, hz3, hz4, hz5, hr, v1, ws, ih]
        · subst hk
          simp [hj, hq, p1, p2, p3, hz1, hz2, hz3, hz4, hz5, hr, v1, ws, ih]
      | row R B okR hB hk =>
        have v2 := cv29 okR
        have u2 := c32 R okR.len
        have hRL := okR.ok.len
        rcases hk with hk | hk | ⟨k0, k1, k2, k3⟩
        · subst hk
          simp [hj, hq, p1, p2, p3, hz1, hz2, hz3, hz4, hz5, hr, v2, ws]
          refine ih R _ _ (.rw _ R ?_) okR
          simp [hz1, hz2, hz3, hz4, hz5]
        · subst hk
          simp [hj, hq, p1, p2, p3, hz1, hz2, hz3, hz4, hz5, hr, v2, ws]
          refine ih R _ _ (.rw _ R ?_) okR
          simp [hz1, hz2, hz3, hz4, hz5]
        · rw [k3] at u2
          simp at u2
          simp [hj, hq, p1, p2, p3, hz1, hz2, hz3, hz4, hz5, hr, v2, u1, u2, k0, k1, k2, ws]
          refine ih R _ _ (.rw _ R ?_) okR
          simp [hz1, hz2, hz3, hz4, hz5]
    | fz id l hz =>
      have hz1 := fun X => getL (Z := X) hz
      cases hp with
      | same hk =>
        have ih := fun Z => ih l (jl l) Z (.sl l) ok
        rcases hk with hk | hk
        · subst hk
          simp [hj, hq, p1, p2, p3, hz1, hr, v1, ws, ih]
        · subst hk
          simp [hj, hq, p1, p2, p3, hz1, hr, v1, ws, ih]
      | row R B okR hB hk =>
        have v2 := cv29 okR
        have u2 := c32 R okR.len
        have hRL := okR.ok.len
        rcases hk with hk | hk | ⟨k0, k1, k2, k3⟩
        · subst hk
          simp [hj, hq, p1, p2, p3, hz1, hr, v2, ws]
          refine ih R _ _ (.rw _ R ?_) okR
          simp [hz1]
        · subst hk
          simp [hj, hq, p1, p2, p3, hz1, hr, v2, ws]
          refine ih R _ _ (.rw _ R ?_) okR
          simp [hz1]
        · rw [k3] at u2
          simp at u2
          simp [hj, hq, p1, p2, p3, hz1, hr, v2, u1, u2, k0, k1, k2, ws]
          refine ih R _ _ (.rw _ R ?_) okR
          simp [hz1]
theorem ok_nil : OkS [] := ⟨⟨by simp, by simp, by simp, by simp⟩, by simp⟩
theorem c8 (sc : List Op5) (hb : ∀ x ∈ sc, x.st ≤ mx) : callW tbl 8 [.sl 4 (sc.map encO)] = some (.bool true, []) := by
  rw [call_run tbl (f := 8) (fn := f8) rfl _ rfl]
  by_cases h40 : (40 : Int) < sc.length
  · simp [f8, f8body, h40, c10]
  · have ht := t8 sc (by omega) hb sc.length 0 (by omega) [] (.ref 0 0 0 0) [.row 42 7 0 []] (show IsT [.row 42 7 0 []] (.ref 0 0 0 0) [] from .rw 0 [] rfl) ok_nil
    simp at ht
    simp [f8, f8body, h40, ht]
end Go.Proofs.YtpphfbfmoipoaaaDoor
