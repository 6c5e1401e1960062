/- Jobs: copies of lists, the numbers in use, and Add on both sides; the law JobsAdds. No condition. -/
import Derived.Test.YtpphfbfmoipoaaaDoorJk
namespace Go.Proofs.YtpphfbfmoipoaaaDoor
open Go.PI
set_option maxRecDepth 100000
set_option maxHeartbeats 8000000
set_option linter.unusedSimpArgs false
theorem tc39 (n : Nat) (hn : n ≤ 1000000) : ∀ (q : List Jb) (A : List AV) (Z : List AO), (∀ x ∈ q, BJ x) → A.length + q.length = n → run tbl (.cl [.tmp 2]) [.blk 0, .seq (f39r9.seq .ret)] (.loop [9, 8, 3] f39b8) [(9, .int .i64 A.length), (8, .int .i64 n), (3, .ref 1 0 0 n)] (.row 42 7 0 [] :: .row 42 7 0 (A ++ q.map encJ) :: Z) = some (.ref 0 0 0 n, [.row 42 7 0 (A ++ q.map encJ)])
  | [], A, Z, _, h => by
    have h : A.length = n := by simpa using h
    rw [run_loopD _ _ f39b8_eq]
    have h2 : A.take n = A := List.take_of_length_le (by omega)
    simp [h, h2]
  | x :: q, A, Z, hb, h => by
    have hx := hb x (by simp)
    have h : A.length + (q.length + 1) = n := by simpa using h
    have hi : A.length < n := by omega
    have ih := fun Z => tc39 n hn q (A ++ [encJ x]) Z (fun y hy => hb y (by simp [hy])) (by simp; omega)
    have ws := wrapS A.length (by omega)
    have e1 := c38 hx.1
    have e2 := c38 hx.2
    simp at ih ws
    rw [run_loopD _ _ f39b8_eq]
    simp [hi, e1, e2, ws, ih, spl]
theorem c39 (l : List Jb) (hl : l.length ≤ 1000000) (hb : ∀ j ∈ l, BJ j) : callW tbl 39 [jl l] = some (.ref 0 0 0 l.length, [.row 42 7 0 (l.map encJ)]) := by
  rw [call_run tbl (f := 39) (fn := f39) rfl _ rfl]
  have h := fun Z => tc39 l.length hl l [] Z hb (by simp)
  have e := c73 hl
  simp at h
  simp [f39, f39body, e, h]
theorem t44 (l : List Jb) (hl : l.length ≤ 1000000) : ∀ (k i : Nat), i + k = l.length → run tbl (.cl [.tmp 2]) [.blk 0, .seq (f44r7.seq .ret)] (.loop [3, 4, 0] f44b6) [(3, .ref 1 i 0 i), (4, .int .i64 i), (0, jl l)] [.row 42 7 0 [], .row 42 7 i ((l.take i).map encJ)] = some (.ref 0 0 0 l.length, [.row 42 7 0 (l.map encJ)])
  | 0, i, h => by
    obtain rfl : i = l.length := by omega
    rw [run_loopD _ _ f44b6_eq]
    simp
  | k + 1, i, h => by
    have hi : i < l.length := by omega
    have ih := t44 l hl k (i + 1) (by omega)
    rw [Int.natCast_succ, List.take_succ_eq_append_getElem hi, List.map_append] at ih
    have ws := wrapS i (by omega)
    have hmin : min i l.length = i := by omega
    rw [run_loopD _ _ f44b6_eq]
    have ht : ((l.take i).map encJ).length = i := by simp; omega
    generalize hA : (l.take i).map encJ = A at ih ht ⊢
    simp at ih
    simp [hi, ws, ih, ht, show i ≤ 1073741823 by omega]
theorem c44 (l : List Jb) (hl : l.length ≤ 1000000) : callW tbl 44 [jl l] = some (.ref 0 0 0 l.length, [.row 42 7 0 (l.map encJ)]) := by
  rw [call_run tbl (f := 44) (fn := f44) rfl _ rfl]
  have h := t44 l hl l.length 0 (by omega)
  simp at h
  simp [f44, f44body, h]
/- is a number in use? -/
theorem v37 (P Z : List AO) (x : Jb) (n : Int) : callV tbl 37 [encJ x, .bptr P.length 0] (P ++ .box 3 1 (.int .i64 n) :: Z) = some (.bool (decide (x.num = n)), P ++ .box 3 1 (.int .i64 n) :: (Z ++ [.box 42 7 (encJ x)])) := by
  rw [callV_run tbl (f := 37) (fn := f37) rfl _ _ rfl]
  have g : (P ++ .box 3 1 (.int .i64 n) :: (Z ++ [.box 42 7 (encJ x)]))[P.length + (Z.length + 1)]? = some (.box 42 7 (encJ x)) := by rw [get_mid2]; simp
  by_cases h : x.num = n
  · simp [f37, f37body, h]
  · simp [f37, f37body, h]
theorem t49 (P : List AO) (n : Int) (l : List Jb) (hl : l.length ≤ 1000000) : ∀ (k i : Nat) (Z : List AO), i + k = l.length → ∃ Z', run tbl (.op [.tmp 4]) [.blk 0, .seq (f49r8.seq .ret)] (.loop [7, 1, 0, 8] f49b7) [(7, .int .i64 l.length), (1, .fn 37 [.bptr P.length 0]), (0, jl l), (8, .int .i64 i)] (P ++ .box 3 1 (.int .i64 n) :: Z) = some (.int .i64 (oi (nmN n (l.drop i) i)), P ++ .box 3 1 (.int .i64 n) :: Z')
  | 0, i, Z, h => by
    refine ⟨Z, ?_⟩
    rw [run_loopD _ _ f49b7_eq]
    simp [show i = l.length by omega, nmN, oi]
  | k + 1, i, Z, h => by
    have hi : i < l.length := by omega
    obtain ⟨Z', ih⟩ := t49 P n l hl k (i + 1) (Z ++ [.box 42 7 (encJ l[i])]) (by omega)
    rw [Int.natCast_succ] at ih
    have ws := wrapS i (by omega)
    have e1 := v37 P Z l[i] n
    rw [run_loopD _ _ f49b7_eq, drop_step hi]
    by_cases h1 : l[i].num = n
    · refine ⟨Z ++ [.box 42 7 (encJ l[i])], ?_⟩
      subst h1
      simp at e1
      simp [hi, nmN, oi, e1, -List.getElem_cons_drop, -List.map_drop]
    · refine ⟨Z', ?_⟩
      simp [h1] at e1
      simp [hi, nmN, h1, e1, ws, ih, -List.getElem_cons_drop, -List.map_drop]
theorem v36 (P Z : List AO) (n : Int) (l : List Jb) (hl : l.length ≤ 1000000) : ∃ Z', callV tbl 36 [jl l, .fn 37 [.bptr P.length 0]] (P ++ .box 3 1 (.int .i64 n) :: Z) = some (.bool (decide (¬ nmN n l 0 = none)), P ++ .box 3 1 (.int .i64 n) :: Z') := by
  obtain ⟨Z', h⟩ := t49 P n l hl l.length 0 Z (by omega)
  simp at h
  have h49 : callV tbl 49 [jl l, .fn 37 [.bptr P.length 0]] (P ++ .box 3 1 (.int .i64 n) :: Z) = some (.int .i64 (oi (nmN n l 0)), P ++ .box 3 1 (.int .i64 n) :: Z') := by
    rw [callV_run tbl (f := 49) (fn := f49) rfl _ _ rfl]
    simp [f49, f49body, h]
  refine ⟨Z', ?_⟩
  rw [callV_run tbl (f := 36) (fn := f36) rfl _ _ rfl]
  cases hn : nmN n l 0 with
  | none => rw [hn] at h49; simp only [oi] at h49; simp [f36, f36body, h49]
  | some i => rw [hn] at h49; simp only [oi] at h49; simp [f36, f36body, h49]
theorem len_le_of_subset : ∀ (S M : List Int), S.Nodup → (∀ x ∈ S, x ∈ M) → S.length ≤ M.length
  | [], M, _, _ => by simp
  | x :: S, M, hn, h => by
    have hx := h x (by simp)
    have h1 := List.nodup_cons.1 hn
    have := len_le_of_subset S (M.erase x) h1.2 (fun y hy => (List.mem_erase_of_ne (fun (e : y = x) => h1.1 (by rw [← e]; exact hy))).2 (h y (by simp [hy])))
    rw [List.length_erase_of_mem hx] at this
    have := List.length_pos_of_mem hx
    simp only [List.length_cons]; omega
/-- the least number that is free -/
def nxt (l : List Jb) : Nat → Nat → Nat
  | 0, n => n
  | k + 1, n => if nmN n l 0 = none then n else nxt l k (n + 1)
theorem nxt_free (l : List Jb) : ∀ (k n : Nat), nmN (nxt l k n) l 0 = none ∨ ∀ i, n ≤ i → i < n + k → ¬ nmN i l 0 = none
  | 0, n => .inr (fun i h1 h2 => by omega)
  | k + 1, n => by
    simp only [nxt]
    by_cases h : nmN n l 0 = none
    · left; rw [if_pos h]; exact h
    · rw [if_neg h]
      rcases nxt_free l k (n + 1) with h1 | h1
      · exact .inl h1
      · right
        intro i h2 h3
        by_cases hi : i = n
        · subst hi; exact h
        · exact h1 i (by omega) (by omega)
theorem nxt_ge (l : List Jb) : ∀ (k n : Nat), n ≤ nxt l k n
  | 0, n => Nat.le_refl _
  | k + 1, n => by
    simp only [nxt]
    split
    · exact Nat.le_refl _
    · have := nxt_ge l k (n + 1); omega
theorem nxt_le (l : List Jb) : ∀ (k n : Nat), nxt l k n ≤ n + k
  | 0, n => Nat.le_refl _
  | k + 1, n => by
    simp only [nxt]
    split
    · omega
    · have := nxt_le l k (n + 1); omega
theorem nxt_used (l : List Jb) : ∀ (k n i : Nat), n ≤ i → i < nxt l k n → ¬ nmN i l 0 = none
  | 0, n, i, h1, h2 => by simp [nxt] at h2; omega
  | k + 1, n, i, h1, h2 => by
    simp only [nxt] at h2
    split at h2
    · omega
    · rename_i h
      by_cases hi : i = n
      · subst hi; exact h
      · exact nxt_used l k (n + 1) i (by omega) h2
def num (l : List Jb) : Nat := nxt l (l.length + 1) 1
theorem num_free (l : List Jb) : nmN (num l) l 0 = none := by
  rcases nxt_free l (l.length + 1) 1 with h | h
  · exact h
  · exfalso
    have hs : ∀ x ∈ (List.range (l.length + 1)).map (fun i => ((i + 1 : Nat) : Int)), x ∈ l.map (·.num) := by
      intro x hx
      obtain ⟨i, hi, rfl⟩ := List.mem_map.1 hx
      have hi := List.mem_range.1 hi
      have := h (i + 1) (by omega) (by omega)
      rw [nm_iff] at this
      by_cases hq : ∃ j ∈ l, j.num = ((i + 1 : Nat) : Int)
      · obtain ⟨j, hj, he⟩ := hq
        exact List.mem_map.2 ⟨j, hj, he⟩
      · exact absurd (fun j hj he => hq ⟨j, hj, he⟩) this
    have hn : ((List.range (l.length + 1)).map (fun i => ((i + 1 : Nat) : Int))).Nodup := by
      rw [List.nodup_iff_pairwise_ne, List.pairwise_map]
      exact (List.pairwise_lt_range).imp (fun h => by omega)
    have := len_le_of_subset _ _ hn hs
    simp at this
    omega
end Go.Proofs.YtpphfbfmoipoaaaDoor
