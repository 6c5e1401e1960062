/- RedirectOnce: every descriptor of the moves is saved once and restored once. No condition. -/
import Derived.Test.YtddcoboldcenkaaKeep
namespace Go.Proofs.Ytddcoboldcenkaa
open Go.PI
set_option maxRecDepth 100000
set_option maxHeartbeats 8000000
set_option linter.unusedSimpArgs false
abbrev rowS (D : List Int) : AO := .row 37 6 0 (D.map fun n => encM (sv n))
abbrev rowB (D : List Int) : AO := .row 37 6 0 (D.reverse.map fun n => encM (bk n))
/- no earlier save has the descriptor -/
theorem t6a (D : List Int) (hD : D.length ≤ 60) (i : Nat) (hi : i < D.length) (hne : ∀ j (h : j < i), D[j] ≠ D[i]) (K : List Fr) (v4 v0 v44 v45 : AV) (h1 : AO) : ∀ (k j : Nat), j + k = i → run tbl (.cl [.tmp 2]) (.blk 2 :: K) (.loop [83, 4, 0, 44, 45, 3, 5, 84] f6b17) [(83, .int .i64 i), (4, v4), (0, v0), (44, v44), (45, v45), (3, .ref 0 0 0 D.length), (5, .int .i64 i), (84, .int .i64 j)] [rowS D, h1]
      = back tbl (.cl [.tmp 2]) K [(85, .bool false), (5, .int .i64 i), (3, .ref 0 0 0 D.length), (45, v45), (44, v44), (0, v0), (4, v4), (83, .int .i64 i), (84, .int .i64 i)] [rowS D, h1]
  | 0, j, h => by
    obtain rfl : j = i := by omega
    rw [run_loopD _ _ f6b17_eq]
    simp
  | k + 1, j, h => by
    have hj : j < i := by omega
    have hjD : j < D.length := by omega
    have ih := t6a D hD i hi hne K v4 v0 v44 v45 h1 k (j + 1) (by omega)
    rw [Int.natCast_succ] at ih
    rw [run_loopD _ _ f6b17_eq]
    simp [hi, hj, hjD, hne j hj, wrapS j (by omega), ih]
/- the saves and the restores, one by one -/
theorem t6b (D : List Int) (hD : D.length ≤ 60) (hne : ∀ i (hi : i < D.length) j (h : j < i), D[j] ≠ D[i]) (K : List Fr) (v0 : AV) : ∀ (k i : Nat), i + k = D.length → run tbl (.cl [.tmp 2]) (.blk 0 :: K) (.loop [3, 45, 44, 0, 4] f6b19) [(3, .ref 0 0 0 D.length), (45, .int .i64 i), (44, .int .i64 D.length), (0, v0), (4, .ref 1 0 0 D.length)] [rowS D, rowB D]
      = back tbl (.cl [.tmp 2]) K [(46, .bool false), (3, .ref 0 0 0 D.length), (45, .int .i64 D.length), (44, .int .i64 D.length), (0, v0), (4, .ref 1 0 0 D.length)] [rowS D, rowB D]
  | 0, i, h => by
    obtain rfl : i = D.length := by omega
    rw [run_loopD _ _ f6b19_eq]
    simp
  | k + 1, i, h => by
    have hi : i < D.length := by omega
    have ih := t6b D hD hne K v0 k (i + 1) (by omega)
    rw [Int.natCast_succ] at ih
    have ha := fun K v4 v0 v44 v45 h1 => t6a D hD i hi (hne i hi) K v4 v0 v44 v45 h1 i 0 (by omega)
    have w1 := wrap64 ((D.length : Int) - 1) (by omega) (by omega)
    have e1 : (D.length : Int) - 1 - i = ((D.length - 1 - i : Nat) : Int) := by omega
    have w2 := wrap64 ((D.length - 1 - i : Nat) : Int) (by omega) (by omega)
    have hq : D.length - 1 - i < D.length := by omega
    have hr : D.length - 1 - (D.length - 1 - i) = i := by omega
    simp at ha ih
    rw [run_loopD _ _ f6b19_eq]
    simp [hi, w1, e1, w2, hq, hr, ha, wrapS i (by omega), ih]
/- is the descriptor among the saves? -/
theorem t6i (D : List Int) (hD : D.length ≤ 60) (m : Mv) (h1 : AO) (p : Nat) (K : List Fr) (v102 v101 v100 : AV) (R : Option (AV × List AO))
    (hk : ∀ r, back tbl (.cl [.tmp 2]) K [(109, .bool false), (9, .bool true), (108, .int .i64 D.length), (107, .int .i64 D.length), (102, v102), (101, v101), (100, v100), (3, .ref 0 0 0 D.length), (106, .ref 0 0 0 D.length), (8, .bptr (p + 1 + 1) 0)] (rowS D :: h1 :: r) = R) :
    ∀ (k i : Nat) (b : Bool) (rest : List AO), i + k = D.length → (b || (D.drop i).any (fun n => n == m.fd)) = true → rest[p]? = some (.box 37 6 (encM m)) → run tbl (.cl [.tmp 2]) (.blk 6 :: K) (.loop [9, 108, 107, 102, 101, 100, 3, 106, 8] f6b29) [(9, .bool b), (108, .int .i64 i), (107, .int .i64 D.length), (102, v102), (101, v101), (100, v100), (3, .ref 0 0 0 D.length), (106, .ref 0 0 0 D.length), (8, .bptr (p + 1 + 1) 0)] (rowS D :: h1 :: rest) = R
  | 0, i, b, rest, h, hb, hr => by
    obtain rfl : i = D.length := by omega
    rw [run_loopD _ _ f6b29_eq]
    simp at hb
    subst hb
    simp [hk]
  | k + 1, i, b, rest, h, hb, hr => by
    have hi : i < D.length := by omega
    have hr' : ∀ x, (rest ++ [x])[p]? = some (.box 37 6 (encM m)) := fun x => by
      rw [List.getElem?_append_left (List.getElem?_eq_some_iff.1 hr).1]; exact hr
    have ih := fun b x hb => t6i D hD m h1 p K v102 v101 v100 R hk k (i + 1) b (rest ++ [x]) (by omega) hb (hr' x)
    rw [Int.natCast_succ] at ih
    rw [drop_step hi] at hb
    rw [run_loopD _ _ f6b29_eq]
    cases b
    · by_cases e : D[i] = m.fd
      · simp [hi, wrapS i (by omega), hr', e, ih]
      · simp [-List.getElem_cons_drop, e] at hb
        simp [hi, wrapS i (by omega), hr', e, ih, hb]
    · simp [hi, wrapS i (by omega), hr', ih]
theorem t6c (l : List Mv) (hl : l.length ≤ 60) (D : List Int) (hD : D.length ≤ 60) (hm : ∀ m ∈ l, m.fd ∈ D) (h1 : AO) : ∀ (k i : Nat) (rest : List AO), i + k = l.length → run tbl (.cl [.tmp 2]) [.blk 4, .seq (f6r34.seq .ret)] (.loop [102, 101, 100, 3] f6b33) [(102, .int .i64 i), (101, .int .i64 l.length), (100, .sl 6 (l.map encM)), (3, .ref 0 0 0 D.length)] (rowS D :: h1 :: rest) = some (.bool true, [])
  | 0, i, rest, h => by
    obtain rfl : i = l.length := by omega
    rw [run_loopD _ _ f6b33_eq]
    simp [c7]
  | k + 1, i, rest, h => by
    have hi : i < l.length := by omega
    have ih := fun r => t6c l hl D hD hm h1 k (i + 1) r (by omega)
    rw [Int.natCast_succ] at ih
    have hd := hm l[i] (List.getElem_mem hi)
    have hI := fun K v102 v101 v100 R hk => t6i D hD l[i] h1 rest.length K v102 v101 v100 R hk D.length 0 false (rest ++ [.box 37 6 (encM l[i])]) (by omega) (by simpa using hd) (by simp)
    rw [run_loopD _ _ f6b33_eq]
    simp at hI
    simp [hi]
    refine hI _ _ _ _ _ (fun r => ?_)
    simp [wrapS i (by omega), ih]
theorem ds_nodup (l : List Mv) : ∀ i, i ≤ l.length → (ds l i).Nodup
  | 0, _ => by simp [ds]
  | i + 1, h => by
    have hi : i < l.length := by omega
    have ih := ds_nodup l i (by omega)
    rw [ds]
    by_cases hk : known l i = true
    · rw [if_pos hk]; exact ih
    · rw [if_neg hk]
      refine List.nodup_append.2 ⟨ih, by simp, fun a ha b hb e => hk ?_⟩
      simp at hb
      subst e hb
      rw [known_iff l i hi, ← fdAt_eq hi]
      exact ha
theorem mem_ds' (l : List Mv) (m : Mv) (h : m ∈ l) : m.fd ∈ ds l l.length := by
  rw [mem_ds l _ _ (Nat.le_refl _), List.take_length]
  exact List.any_eq_true.2 ⟨m, h, by simp⟩
theorem c6 (l : List Mv) : callW tbl 6 [.sl 6 (l.map encM)] = some (.bool true, []) := by
  rw [call_run tbl (f := 6) (fn := f6) rfl _ rfl]
  by_cases hs : (60 : Int) < l.length
  · simp [f6, f6body, hs, c7]
  · have hl : l.length ≤ 60 := by omega
    have hd := ds_length l l.length
    have h11 := c11 l hl
    unfold keepR at h11
    by_cases hn : l = []
    · subst hn
      simp [ds] at h11
      simp [f6, f6body, h11]
      rw [run_loopD _ _ f6b19_eq]
      simp
      rw [run_loopD _ _ f6b33_eq]
      simp [c7]
    · have hpos : 0 < l.length := List.length_pos_iff.2 hn
      have hm0 := mem_ds' l l[0] (List.getElem_mem hpos)
      have hDn : ds l l.length ≠ [] := fun e => by rw [e] at hm0; cases hm0
      rw [if_neg hDn] at h11
      generalize hDe : ds l l.length = D at *
      have hnd : D.Nodup := hDe ▸ ds_nodup l l.length (Nat.le_refl _)
      have hDp : 0 < D.length := List.length_pos_iff.2 hDn
      have hb := fun K v0 => t6b D (by omega) (fun i hi j h e => by have := (List.getElem_inj (h₀ := by omega) (h₁ := hi) hnd).1 e; omega) K v0 D.length 0 (by omega)
      have hc := t6c l hl D (by omega) (fun m hm => hDe ▸ mem_ds' l m hm) (rowB D) l.length 0 [] (by omega)
      have e1 : D.map (encM ∘ sv) = D.map fun n => encM (sv n) := rfl
      have e2 : D.map (encM ∘ bk) = D.map fun n => encM (bk n) := rfl
      have e3 : ((D.length : Int) == 0) = false := by rw [beq_eq_false_iff_ne]; omega
      simp [rowS, rowB] at h11 hb hc
      simp [f6, f6body, hs, h11, show ¬ ((l.length : Int) < D.length) by omega, hDn, hn, hpos, e1, e2, e3, hb, hc]
end Go.Proofs.Ytddcoboldcenkaa
