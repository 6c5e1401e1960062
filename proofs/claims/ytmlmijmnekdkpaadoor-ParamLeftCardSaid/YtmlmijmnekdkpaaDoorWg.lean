/- Patterns: what the program computes: Prefix, Suffix, Trim. No condition. -/
import Derived.Test.YtmlmijmnekdkpaaDoorWf
namespace Go.Proofs.YtmlmijmnekdkpaaDoor
open Go.PI
set_option maxRecDepth 100000
set_option maxHeartbeats 8000000
set_option linter.unusedSimpArgs false
theorem vI_ok {x : It} (h : vI x = true) (hs : x.st.length ≤ 1000000) : OkI x := by
  refine ⟨hs, fun k1 hn => ?_⟩
  simp [vI, szI, k1, hn] at h
/-- the length of the prefix that is found -/
def srV (p : List It) (t : List UInt8) (lg : Bool) : Nat × Bool := if p.all vI = true then srF (D stI tkI p t p.length) lg t.length 0 (0, false) else (0, false)
theorem c53 (p : List It) (hp : p.length ≤ 1000000) (hI : ∀ x ∈ p, x.st.length ≤ 1000000) (t : List UInt8) (ht : t.length ≤ 1000000) (lg : Bool) :
    callW tbl 53 [pI p, .str t, .int .i64 0, .bool lg] = some (.tup [.int .i64 (srV p t lg).1, .bool (srV p t lg).2], []) := by
  rw [call_run tbl (f := 53) (fn := f53) rfl _ rfl]
  have h65 := c65 p hp hI
  unfold srV
  cases hv : p.all vI
  · rw [hv] at h65
    simp [f53, f53body, h65]
  · rw [hv] at h65
    rw [if_pos rfl]
    have hok : ∀ x ∈ p, OkI x := fun x hx => vI_ok (List.all_eq_true.1 hv x hx) (hI x hx)
    have h := t53 p hp hok t ht lg t.length 0 0 false [] (p.map fun x => .box 52 4 (encI x)) (sprF p fun j => decide (j = 0)) (by omega) (spr_T0 p t)
    have h66 := c66 p hp 0 [] (fun j => decide (j = 0)) []
    have e : (rwS p.length fun _ => false).set 0 (.bool true) = rwS p.length fun j => decide (j = 0) := by
      rw [rwS_set (Nat.zero_le _)]
      exact rwS_congr fun j _ => by by_cases hj : j = 0 <;> simp [upd, hj]
    rw [← rwS_rep] at e
    generalize srF (D stI tkI p t p.length) lg t.length 0 (0, false) = X at h ⊢
    simp at h h66
    simp [f53, f53body, h65, wrapS p.length (by omega), show p.length + 1 ≤ 1073741824 by omega, show (0 : Int) ≤ (p.length : Int) + 1 by omega, show p.length ≤ 1073741823 by omega, e, h66, h]
theorem c35 (p : List It) (hp : p.length ≤ 1000000) (hI : ∀ x ∈ p, x.st.length ≤ 1000000) (t : List UInt8) (ht : t.length ≤ 1000000) (lg : Bool) :
    callW tbl 35 [pI p, .str t, .bool lg] = some (.tup [.int .i64 (srV p t lg).1, .bool (srV p t lg).2], []) := by
  rw [call_run tbl (f := 35) (fn := f35) rfl _ rfl]
  have h := c53 p hp hI t ht lg
  simp [f35, f35body, h]
/- Reverse of items -/
def rvP (l : List It) (i : Nat) : List It := (List.range l.length).map fun m => if m < i ∨ l.length - 1 - i < m then l.getD (l.length - 1 - m) default else l.getD m default
@[simp] theorem rvP_len (l : List It) (i : Nat) : (rvP l i).length = l.length := by simp [rvP]
theorem rvP_get (l : List It) (i m : Nat) (h : m < l.length) : (rvP l i)[m]? = some (if m < i ∨ l.length - 1 - i < m then l.getD (l.length - 1 - m) default else l.getD m default) := by
  unfold rvP
  rw [List.getElem?_map, List.getElem?_range h]; rfl
theorem rvP_0 (l : List It) : rvP l 0 = l := by
  apply List.ext_getElem?
  intro m
  rcases Nat.lt_or_ge m l.length with h | h
  · rw [rvP_get l 0 m h, if_neg (by omega), List.getD_eq_getElem?_getD, List.getElem?_eq_getElem h]; rfl
  · rw [List.getElem?_eq_none (by simpa using h), List.getElem?_eq_none h]
theorem rvP_end (l : List It) (i : Nat) (hi : l.length ≤ 2 * i + 1) : rvP l i = l.reverse := by
  apply List.ext_getElem?
  intro m
  rcases Nat.lt_or_ge m l.length with h | h
  · rw [rvP_get l i m h, List.getElem?_reverse h, List.getElem?_eq_getElem (by omega)]
    by_cases c : m < i ∨ l.length - 1 - i < m
    · rw [if_pos c, List.getD_eq_getElem?_getD, List.getElem?_eq_getElem (by omega)]; rfl
    · rw [if_neg c, List.getD_eq_getElem?_getD, List.getElem?_eq_getElem h, Option.getD_some]
      congr 2
      omega
  · rw [List.getElem?_eq_none (by simpa using h), List.getElem?_eq_none (by simpa using h)]
theorem rvP_step (l : List It) (i : Nat) (hi : 2 * i + 1 < l.length) : ((rvP l i).set i (l.getD (l.length - 1 - i) default)).set (l.length - 1 - i) (l.getD i default) = rvP l (i + 1) := by
  apply List.ext_getElem?
  intro m
  rcases Nat.lt_or_ge m l.length with h | h
  · rw [rvP_get l (i + 1) m h]
    by_cases c1 : m = l.length - 1 - i
    · subst c1
      rw [List.getElem?_set_self (by simpa using h), if_pos (by omega)]
      congr 2
      omega
    · rw [List.getElem?_set_ne (Ne.symm c1)]
      by_cases c2 : m = i
      · subst c2
        rw [List.getElem?_set_self (by simpa using h), if_pos (by omega)]
      · rw [List.getElem?_set_ne (Ne.symm c2), rvP_get l i m h]
        congr 1
        by_cases c : m < i ∨ l.length - 1 - i < m
        · rw [if_pos c, if_pos (by omega)]
        · rw [if_neg c, if_neg (by omega)]
  · rw [List.getElem?_eq_none (by simpa using h), List.getElem?_eq_none (by simpa using h)]
theorem t51 (l : List It) (hl : l.length ≤ 1000000) (Z : List AO) : ∀ (k i : Nat), l.length ≤ 2 * i + 1 + k →
    run tbl (.op []) [.blk 0] (.loop [2, 3, 0] f51b4) [(2, .int .i64 i), (3, .int .i64 ((l.length : Int) - 1 - i)), (0, .ref 0 0 0 l.length)] (.row 52 4 0 ((rvP l i).map encI) :: Z) = some (.tup [], .row 52 4 0 (l.reverse.map encI) :: Z) := by
  intro k
  induction k with
  | zero =>
    intro i h
    rw [run_loopD _ _ f51b4_eq, rvP_end l i (by omega)]
    simp [show ¬ (i : Int) < (l.length : Int) - 1 - i by omega]
  | succ k ih =>
    intro i h
    by_cases c : 2 * i + 1 < l.length
    · have ih := ih (i + 1) (by omega)
      have e := rvP_step l i c
      have g1 := rvP_get l i i (by omega)
      have g2 := rvP_get l i (l.length - 1 - i) (by omega)
      rw [if_neg (by omega)] at g1 g2
      obtain ⟨j, hj⟩ : ∃ j, l.length - 1 - i = j := ⟨_, rfl⟩
      rw [hj] at e g2
      rw [← e] at ih
      have hz : (l.length : Int) - 1 - i = (j : Int) := by omega
      have hz2 : (l.length : Int) - 1 - ((i + 1 : Nat) : Int) = (j : Int) - 1 := by omega
      rw [hz2] at ih
      rw [Int.natCast_succ] at ih
      rw [run_loopD _ _ f51b4_eq, hz]
      have w1 := wrap64 ((j : Int) - 1) (by omega) (by omega)
      generalize hL : rvP l i = L at g1 g2 ih ⊢
      have hLl : L.length = l.length := by rw [← hL]; simp
      have hi' : i < L.length := by omega
      have hj' : j < L.length := by omega
      rw [List.getElem?_eq_getElem hi'] at g1
      rw [List.getElem?_eq_getElem hj'] at g2
      simp at g1 g2
      have hli : i < l.length := by omega
      have hlj : j < l.length := by omega
      simp [List.map_set, hli, hlj] at ih
      simp [show (i : Int) < (j : Int) by omega, show ¬ i = j by omega, show i < l.length by omega, show j < l.length by omega, hi', hj', g1, g2, wrapS i (by omega), w1, ih]
    · rw [run_loopD _ _ f51b4_eq, rvP_end l i (by omega)]
      simp [show ¬ (i : Int) < (l.length : Int) - 1 - i by omega]
theorem c51 (l : List It) (hl : l.length ≤ 1000000) (Z : List AO) : callV tbl 51 [.ref 0 0 0 l.length] (.row 52 4 0 (l.map encI) :: Z) = some (.tup [], .row 52 4 0 (l.reverse.map encI) :: Z) := by
  rw [callV_run tbl (f := 51) (fn := f51) rfl _ _ rfl]
  have h := t51 l hl Z l.length 0 (by omega)
  rw [rvP_0] at h
  simp at h
  have w := wrap64 ((l.length : Int) - 1) (by omega) (by omega)
  simp [f51, f51body, w, h]
theorem c34 (p : List It) (hp : p.length ≤ 1000000) (hI : ∀ x ∈ p, x.st.length ≤ 1000000) (t : List UInt8) (ht : t.length ≤ 1000000) (lg : Bool) :
    callW tbl 34 [pI p, .str t, .bool lg] = some (.tup [.int .i64 (srV p.reverse t.reverse lg).1, .bool (srV p.reverse t.reverse lg).2], []) := by
  rw [call_run tbl (f := 34) (fn := f34) rfl _ rfl]
  have h50 : callW tbl 50 [pI p] = some (.ref 0 0 0 p.length, [.row 52 4 0 (p.map encI)]) := by
    rw [call_ext tbl rfl]
    show cloneX 52 4 (pI p) = _
    simp [cloneX, maxRow, show p.length ≤ 1073741824 by omega]
  have h51 := c51 p hp []
  have h52 : ∀ H : List AO, callV tbl 52 [.itr H.length] (H ++ [.obj (.bb t)]) = some (.tup [], H ++ [.obj (.bb t.reverse)]) := by
    intro H
    rw [callV_ext tbl rfl]
    show revX (H ++ [.obj (.bb t)]) [.itr H.length] = _
    simp [revX, maxRow, show t.length ≤ 1073741824 by omega]
  have h52' := h52 [.row 52 4 0 (p.reverse.map encI)]
  have h := c53 p.reverse (by simpa using hp) (fun x hx => hI x (by simpa using hx)) t.reverse (by simpa using ht) lg
  generalize srV p.reverse t.reverse lg = X at h ⊢
  simp [-List.map_reverse] at h51 h52'
  have htk : (p.reverse.map encI).take p.length = p.reverse.map encI := List.take_of_length_le (by simp)
  simp [f34, f34body, htk, h50, h51, h52', h, show t.length ≤ 1073741824 by omega, -List.map_reverse]
theorem srF_le {R : Nat → Bool} {lg : Bool} : ∀ (m k : Nat) (a : Nat × Bool), a.1 ≤ k + m → (srF R lg m k a).1 ≤ k + m
  | 0, k, a, h => by rw [srF]; split <;> simp_all
  | m + 1, k, a, h => by
    have ih := fun a h => srF_le (R := R) (lg := lg) m (k + 1) a h
    rw [srF]
    split
    · split
      · have := ih (k, true) (by simp; omega); omega
      · simp
    · have := ih a (by omega); omega
theorem srV_le (p : List It) (t : List UInt8) (lg : Bool) : (srV p t lg).1 ≤ t.length := by
  unfold srV
  split
  · have := srF_le (R := D stI tkI p t p.length) (lg := lg) t.length 0 (0, false) (by simp); omega
  · simp
def cutS (t : List UInt8) (X : Nat × Bool) : List UInt8 := if X.2 = true then t.take (t.length - X.1) else t
def cutP (t : List UInt8) (X : Nat × Bool) : List UInt8 := if X.2 = true then t.drop X.1 else t
def trV (op : Int) (t : List UInt8) (p : List It) : List UInt8 :=
  if op = 7 then cutS t (srV p.reverse t.reverse true) else if op = 6 then cutS t (srV p.reverse t.reverse false)
  else if op = 9 then cutP t (srV p t true) else if op = 8 then cutP t (srV p t false) else t
theorem c19 (op : Int) (p : List It) (hp : p.length ≤ 1000000) (hI : ∀ x ∈ p, x.st.length ≤ 1000000) (t : List UInt8) (ht : t.length ≤ 1000000) :
    callW tbl 19 [.int .i64 op, .str t, pI p] = some (.str (trV op t p), []) := by
  rw [call_run tbl (f := 19) (fn := f19) rfl _ rfl]
  unfold trV
  have h34 := c34 p hp hI t ht
  have h35 := c35 p hp hI t ht
  have l34 := fun lg => srV_le p.reverse t.reverse lg
  have l35 := fun lg => srV_le p t lg
  by_cases e7 : op = 7
  · have h := h34 true
    have l := l34 true
    rw [if_pos e7]
    generalize srV p.reverse t.reverse true = X at h l ⊢
    obtain ⟨a, b⟩ := X
    simp at l
    have w := wrap64 ((t.length : Int) - (a : Int)) (by omega) (by omega)
    have w2 : ((t.length : Int) - (a : Int)).toNat = t.length - a := by omega
    cases b
    · simp [f19, f19body, eq_true e7, h, cutS]
    · simp [f19, f19body, eq_true e7, h, cutS, w, w2, show (a : Int) ≤ t.length by omega, show (0 : Int) ≤ (t.length : Int) - a by omega, show t.length - a ≤ t.length by omega]
  rw [if_neg e7]
  by_cases e6 : op = 6
  · have h := h34 false
    have l := l34 false
    rw [if_pos e6]
    generalize srV p.reverse t.reverse false = X at h l ⊢
    obtain ⟨a, b⟩ := X
    simp at l
    have w := wrap64 ((t.length : Int) - (a : Int)) (by omega) (by omega)
    have w2 : ((t.length : Int) - (a : Int)).toNat = t.length - a := by omega
    cases b
    · simp [f19, f19body, e7, eq_true e6, h, cutS]
    · simp [f19, f19body, e7, eq_true e6, h, cutS, w, w2, show (a : Int) ≤ t.length by omega, show (0 : Int) ≤ (t.length : Int) - a by omega, show t.length - a ≤ t.length by omega]
  rw [if_neg e6]
  by_cases e9 : op = 9
  · have h := h35 true
    have l := l35 true
    rw [if_pos e9]
    generalize srV p t true = X at h l ⊢
    obtain ⟨a, b⟩ := X
    simp at l
    cases b
    · simp [f19, f19body, e7, e6, eq_true e9, h, cutP]
    · simp [f19, f19body, e7, e6, eq_true e9, h, cutP, l, List.take_of_length_le]
  rw [if_neg e9]
  by_cases e8 : op = 8
  · have h := h35 false
    have l := l35 false
    rw [if_pos e8]
    generalize srV p t false = X at h l ⊢
    obtain ⟨a, b⟩ := X
    simp at l
    cases b
    · simp [f19, f19body, e7, e6, e9, eq_true e8, h, cutP]
    · simp [f19, f19body, e7, e6, e9, eq_true e8, h, cutP, l, List.take_of_length_le]
  rw [if_neg e8]
  simp [f19, f19body, e7, e6, e9, e8]
end Go.Proofs.YtmlmijmnekdkpaaDoor
