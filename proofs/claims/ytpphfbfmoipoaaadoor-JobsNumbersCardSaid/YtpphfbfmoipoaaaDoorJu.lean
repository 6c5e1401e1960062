/- Jobs: Find by a job's number and the marks of the lines; the law JobsNumbers. No condition. -/
import Derived.Test.YtpphfbfmoipoaaaDoorJt
namespace Go.Proofs.YtpphfbfmoipoaaaDoor
open Go.PI
set_option maxRecDepth 100000
set_option maxHeartbeats 8000000
set_option linter.unusedSimpArgs false
def nn (n : Nat) : List UInt8 := if n < 10 then [UInt8.ofNat (48 + n)] else [UInt8.ofNat (48 + n / 10), UInt8.ofNat (48 + n % 10)]
theorem itoa_nn (n : Nat) (h : n < 100) : Lib.itoa (n : Int) = nn n := by
  unfold Lib.itoa nn
  rw [if_neg (by omega), Int.toNat_natCast]
  by_cases h1 : n < 10
  · rw [Lib.decDigits, dif_pos h1, if_pos h1]
  · rw [Lib.decDigits, dif_neg h1, if_neg h1, Lib.decDigits, dif_pos (by omega)]
    rfl
theorem nn_all : ∀ n, n < 33 → 1 ≤ n → numS (nn n) = true ∧ ∀ m, m < 33 → nn m = nn n → m = n := by decide +kernel
theorem itoa_num {n : Int} (h1 : 1 ≤ n) (h2 : n ≤ 32) : numS (Lib.itoa n) = true := by
  obtain ⟨k, rfl⟩ := Int.eq_ofNat_of_zero_le (show 0 ≤ n by omega)
  rw [itoa_nn k (by omega)]
  exact (nn_all k (by omega) (by omega)).1
theorem itoa_inj {n m : Int} (h1 : 1 ≤ n) (h2 : n ≤ 32) (h3 : 1 ≤ m) (h4 : m ≤ 32) (h : Lib.itoa m = Lib.itoa n) : m = n := by
  obtain ⟨k, rfl⟩ := Int.eq_ofNat_of_zero_le (show 0 ≤ n by omega)
  obtain ⟨j, rfl⟩ := Int.eq_ofNat_of_zero_le (show 0 ≤ m by omega)
  rw [itoa_nn k (by omega), itoa_nn j (by omega)] at h
  rw [(nn_all k (by omega) (by omega)).2 j (by omega) h]
theorem itN_num : ∀ (l : List Jb) (k i : Nat) (hi : i < l.length), (∀ j ∈ l, 1 ≤ j.num ∧ j.num ≤ 32) → (l.map (·.num)).Nodup → itN (Lib.itoa l[i].num) l k = some (k + i)
  | [], _, _, hi, _, _ => by simp at hi
  | j :: r, k, i, hi, hb, hn => by
    rw [List.map_cons, List.nodup_cons] at hn
    cases i with
    | zero => simp [itN]
    | succ i =>
      have hi' : i < r.length := by simpa using hi
      have ih := itN_num r (k + 1) i hi' (fun x hx => hb x (by simp [hx])) hn.2
      have hj := hb j (by simp)
      have hm := hb r[i] (by simp)
      have hne : ¬ Lib.itoa j.num = Lib.itoa r[i].num := by
        intro e
        have := itoa_inj hm.1 hm.2 hj.1 hj.2 e
        exact hn.1 (by rw [this]; exact List.mem_map_of_mem (List.getElem_mem hi'))
      simp only [List.getElem_cons_succ, itN]
      rw [if_neg hne, ih]
      congr 1
      omega
theorem fnd_num (l : List Jb) (o : Ok l) (i : Nat) (hi : i < l.length) : fndS l (37 :: Lib.itoa l[i].num) = ((i : Int), 0) := by
  have hg : ∀ j ∈ l, 1 ≤ j.num ∧ j.num ≤ 32 := fun j hj => ⟨(o.good hj).n1, (o.good hj).n2⟩
  have h1 := hg l[i] (List.getElem_mem hi)
  have hn := itoa_num h1.1 h1.2
  have hx := itN_num l 0 i hi hg o.nums
  generalize Lib.itoa l[i].num = s at hn hx ⊢
  have e1 : ¬ s = [63] := by rintro rfl; revert hn; decide
  have e2 : ¬ s = [] := by rintro rfl; revert hn; decide
  have e3 : ¬ s = [37] := by rintro rfl; revert hn; decide
  have e4 : ¬ s = [43] := by rintro rfl; revert hn; decide
  have e5 : ¬ s = [45] := by rintro rfl; revert hn; decide
  simp only [fndS, not_true_eq_false, false_or]
  rw [if_neg e1, if_neg (by simp [e2, e3, e4]), if_neg e5, if_pos hn, hx]
  simp only [oi, foP, Nat.zero_add]
  rw [if_neg (by omega)]
/- the marks -/
def atB (c : Int) (i : Nat) : Nat := if 0 ≤ c ∧ c < i then 1 else 0
theorem atB_succ (c : Int) (i : Nat) : atB c (i + 1) = if (i : Int) = c then 1 else atB c i := by
  unfold atB
  split <;> split <;> (try split) <;> omega
theorem atB_self (i : Nat) : atB i i = 0 := by unfold atB; rw [if_neg (by omega)]
theorem g1_ne (l : List Jb) (b : Int) : ∀ k, g1 l b k = b → b = -1
  | 0, h => by simp [g1] at h; omega
  | k + 1, h => by
    simp only [g1] at h
    split at h
    · exact g1_ne l b k h
    · split at h
      · rename_i h2; exact absurd h h2.1
      · exact g1_ne l b k h
theorem g2_ne (b : Int) : ∀ k, g2 b k = b → b = -1
  | 0, h => by simp [g2] at h; omega
  | k + 1, h => by
    simp only [g2] at h
    split at h
    · rename_i h2; exact absurd h h2
    · exact g2_ne b k h
theorem lastS_ne {l : List Jb} {b : Int} (h : lastS l b = b) : b = -1 := by
  unfold lastS at h
  split at h
  · exact g1_ne l b _ h
  · exact g2_ne b _ h
theorem g2_pos (b : Int) : ∀ (k m : Nat), m < k → ¬ (m : Int) = b → 0 ≤ g2 b k
  | 0, m, h, _ => by omega
  | k + 1, m, h, hm => by
    simp only [g2]
    split
    · omega
    · rename_i hk
      refine g2_pos b k m ?_ hm
      have : ¬ m = k := by rintro rfl; exact hk hm
      omega
theorem lastS_pos {l : List Jb} {b : Int} {m : Nat} (h : m < l.length) (hm : ¬ (m : Int) = b) : 0 ≤ lastS l b := by
  unfold lastS
  split
  · assumption
  · exact g2_pos b _ m h hm
/-- the mark at a place -/
def mk1 (cu pv : Int) (i : Nat) : UInt8 := if (i : Int) = cu then 43 else if (i : Int) = pv then 45 else 32
theorem t5 (l : List Jb) (o : Ok l) (cu pv : Int) (hne : cu = pv → pv = -1) (hc : atB cu l.length = min l.length 1) (hp : atB pv l.length = min (l.length - 1) 1)
    (h14 : ∀ i (hi : i < l.length), callW tbl 14 [jl l, .str (37 :: Lib.itoa l[i].num)] = some (.tup [.int .i64 i, .int .i64 0], []))
    (h18 : ∀ i (hi : i < l.length), callW tbl 18 [jl l, .int .i64 i, .bool false] = some (.str (91 :: (Lib.itoa l[i].num ++ 93 :: mk1 cu pv i :: 32 :: (wdJ l[i] ++ 32 :: 32 :: l[i].text))), [])) :
    ∀ (k i : Nat), i + k = l.length → run tbl (.cl [.tmp 2]) [.blk 0, .seq (f5r17.seq .ret)] (.loop [0, 5, 4, 3] f5b16) [(0, jl l), (5, .int .i64 i), (4, .int .i64 (atB pv i : Nat)), (3, .int .i64 (atB cu i : Nat))] [] = some (.bool true, [])
  | 0, i, h => by
    obtain rfl : i = l.length := by omega
    rw [run_loopD _ _ f5b16_eq]
    have hL := o.len
    have ws : IntKind.i64.wrap ((l.length : Int) - 1) = (l.length : Int) - 1 := wrap64 _ (by omega) (by omega)
    rcases (by omega : l.length = 0 ∨ l.length = 1 ∨ 2 ≤ l.length) with z | z | z
    · have hc' : atB cu l.length = 0 := by omega
      have hp' : atB pv l.length = 0 := by omega
      rw [hc', hp']
      have ws0 : IntKind.i64.wrap (-1) = -1 := by decide
      simp [z, ws0, c10]
    · have hc' : atB cu l.length = 1 := by omega
      have hp' : atB pv l.length = 0 := by omega
      rw [hc', hp']
      have ws0 : IntKind.i64.wrap 0 = 0 := by decide
      simp [z, ws0, c10]
    · have hc' : atB cu l.length = 1 := by omega
      have hp' : atB pv l.length = 1 := by omega
      rw [hc', hp']
      have q1 : (if (1 : Int) < l.length then (1 : Int) else l.length) = 1 := if_pos (by omega)
      have q2 : (if (l.length : Int) - 1 < 0 then (0 : Int) else l.length - 1) = l.length - 1 := if_neg (by omega)
      by_cases z2 : l.length = 2
      · have ws0 : IntKind.i64.wrap 1 = 1 := by decide
        simp [z2, ws0, c10]
      · simp [ws, c10, show (1 : Int) < l.length by omega, show ¬ (l.length : Int) - 1 < 0 by omega, show (1 : Int) < (l.length : Int) - 1 by omega]
  | k + 1, i, h => by
    have hi : i < l.length := by omega
    have ih := t5 l o cu pv hne hc hp h14 h18 k (i + 1) (by omega)
    have hL := o.len
    have ws := wrapS i (by omega)
    have e1 := h14 i hi
    have e2 := h18 i hi
    have hg := o.good (List.getElem_mem hi)
    have g1 := hg.n1
    have g2 := hg.n2
    have e20 := c20 l[i].num (by omega) (by omega)
    have b20 := Lib.itoa_length_le l[i].num (by omega) (by omega)
    rw [Int.natCast_succ, atB_succ, atB_succ] at ih
    rw [run_loopD _ _ f5b16_eq]
    have m1 : (Lib.itoa l[i].num).length + 1 + 1 ≤ maxStr := by unfold maxStr; omega
    have m2 : (Lib.itoa l[i].num).length + 1 ≤ maxStr := by unfold maxStr; omega
    generalize Lib.itoa l[i].num = A at e1 e2 e20 b20 m1 m2
    generalize wdJ l[i] ++ 32 :: 32 :: l[i].text = R at e2
    unfold mk1 at e2
    have w2 : IntKind.i64.wrap ((A.length : Int) + 1 + 1 + 2) = (A.length : Int) + 1 + 1 + 2 := wrap64 _ (by omega) (by omega)
    have tn : ((A.length : Int) + 1 + 1).toNat = A.length + 1 + 1 := by omega
    have t0 : (0 : Int) ≤ (A.length : Int) + 1 + 1 := by omega
    have m3 : 1 + A.length ≤ maxStr := by omega
    have k1 : ∀ c : UInt8, (A ++ 93 :: c :: 32 :: R).take (A.length + 1) = A ++ [93] := by intro c; rw [List.take_append, List.take_of_length_le (by omega)]; simp
    have k2 : ∀ c : UInt8, (A ++ 93 :: c :: 32 :: R)[A.length + 1]? = some c := by intro c; rw [List.getElem?_append_right (by omega)]; simp
    have k3 : ¬ (A.length : Int) + (R.length + 1 + 1 + 1) + 1 < A.length + 1 + 1 + 2 := by omega
    have k4 : (A.length : Int) + 1 + 1 + 2 ≤ A.length + (R.length + 1 + 1 + 1) + 1 := by omega
    by_cases q1 : (i : Int) = cu
    · have q2 : ¬ (i : Int) = pv := by intro e; have := hne (by rw [← q1, ← e]); omega
      subst q1
      have q3 := atB_self i
      rw [if_pos rfl] at e2
      simp [q2] at ih
      simp [hi, e1, e2, e20, m1, m2, m3, w2, tn, t0, ws, q3, ih, k1, k2, k3, k4]
    · by_cases q2 : (i : Int) = pv
      · subst q2
        have q3 := atB_self i
        rw [if_neg q1, if_pos rfl] at e2
        simp [q1] at ih
        simp [hi, e1, e2, e20, m1, m2, m3, w2, tn, t0, ws, q3, ih, k1, k2, k3, k4]
      · rw [if_neg q1, if_neg q2] at e2
        simp [q1, q2] at ih
        simp [hi, e1, e2, e20, m1, m2, m3, w2, tn, t0, ws, ih, k1, k2, k3, k4]
theorem marks (l : List Jb) : let cu := lastS l (-1); let pv := lastS l cu; (cu = pv → pv = -1) ∧ atB cu l.length = min l.length 1 ∧ atB pv l.length = min (l.length - 1) 1 := by
  have b1 := lastS_bd l (-1)
  have b2 := lastS_bd l (lastS l (-1))
  refine ⟨fun e => ?_, ?_, ?_⟩
  · have := lastS_ne e.symm
    omega
  · unfold atB
    by_cases h : l.length = 0
    · rw [if_neg (by omega)]; omega
    · have := lastS_pos (l := l) (b := -1) (m := 0) (by omega) (by omega)
      rw [if_pos (by omega)]; omega
  · unfold atB
    rcases (by omega : l.length = 0 ∨ l.length = 1 ∨ 2 ≤ l.length) with h | h | h
    · rw [if_neg (by omega)]; omega
    · have h0 := lastS_pos (l := l) (b := -1) (m := 0) (by omega) (by omega)
      have h1 : lastS l (-1) = 0 := by omega
      have h2 : ¬ lastS l (lastS l (-1)) = 0 := by
        rw [h1]
        intro e
        have := lastS_ne e
        omega
      rw [if_neg (by omega)]; omega
    · have : 0 ≤ lastS l (lastS l (-1)) := by
        by_cases e : lastS l (-1) = 0
        · exact lastS_pos (m := 1) (by omega) (by omega)
        · exact lastS_pos (m := 0) (by omega) (by omega)
      rw [if_pos (by omega)]; omega
theorem c5 (l : List Jb) : callW tbl 5 [jl l] = some (.bool true, []) := by
  rw [call_run tbl (f := 5) (fn := f5) rfl _ rfl]
  have e9 := c9 l
  cases hs : smL l 40 0 0
  · rw [hs] at e9
    simp at e9
    simp [f5, f5body, e9, c10]
  by_cases hv : vld l = 0
  · have ho := (ok_iff l).1 hv
    obtain ⟨h1, h2⟩ := small_bj hs
    rw [hs] at e9
    simp [hv] at e9
    have hwj : ∀ j ∈ l, WJ j := fun j hj => (ho.good hj).wj
    have hsj : ∀ j ∈ l, SJ j := fun j hj => good_sj (ho.good hj)
    obtain ⟨m1, m2, m3⟩ := marks l
    have ht := t5 l ho _ _ m1 m2 m3 (fun i hi => by
      have hg := ho.good (List.getElem_mem hi)
      have g1 := hg.n1
      have g2 := hg.n2
      have b20 := Lib.itoa_length_le l[i].num (by omega) (by omega)
      rw [c14 l h1 hsj _ (by simp; omega), fnd_num l ho i hi]) (fun i hi => by
      rw [c18 l h1 h2 hwj hsj i false]
      have hg : l[i]? = some l[i] := List.getElem?_eq_getElem hi
      unfold lnS
      rw [if_neg (by omega)]
      simp only [Int.toNat_natCast, hg, lnJ, mkJ, mk1]
      split
      · simp
      · split <;> simp) l.length 0 (by omega)
    have z1 : atB (lastS l (lastS l (-1))) 0 = 0 := by unfold atB; rw [if_neg (by omega)]
    have z2 : atB (lastS l (-1)) 0 = 0 := by unfold atB; rw [if_neg (by omega)]
    rw [z1, z2] at ht
    simp at ht
    simp [f5, f5body, e9, ht]
  · rw [hs] at e9
    simp [hv] at e9
    simp [f5, f5body, e9, c10]
end Go.Proofs.YtpphfbfmoipoaaaDoor
