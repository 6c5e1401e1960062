/- Signals, in this seat: names, lists, the reference's Valid (turned from the signal seat's texts by a program). No condition. -/
import Derived.Test.YtgppkhbidcgnlaaDoorPr
namespace Go.Proofs.YtgppkhbidcgnlaaDoor
open Go.PI
set_option maxRecDepth 100000
set_option maxHeartbeats 8000000
set_option linter.unusedSimpArgs false
def nm (n : Int) : List UInt8 := match n with
  | 1 => [72, 85, 80] | 2 => [73, 78, 84] | 3 => [81, 85, 73, 84] | 4 => [84, 84, 73, 78] | 5 => [84, 84, 79, 85] | 9 => [75, 73, 76, 76] | 10 => [85, 83, 82, 49] | 12 => [85, 83, 82, 50] | 13 => [80, 73, 80, 69] | 14 => [65, 76, 82, 77] | 15 => [84, 69, 82, 77] | 17 => [67, 72, 76, 68] | 18 => [67, 79, 78, 84] | 19 => [83, 84, 79, 80] | 20 => [84, 83, 84, 80] | _ => []
theorem nm_out (n : Int) (h : n < 0 ∨ 21 ≤ n) : nm n = [] := by
  unfold nm
  split <;> first | omega | rfl
theorem c102 (n : Int) : callW tbl 102 [.int .i64 n] = some (.str (nm n), []) := by
  by_cases h0 : n < 0
  · rw [call_run tbl (f := 102) (fn := f102) rfl _ rfl, nm_out n (.inl h0)]
    simp [f102, f102body, h0]
  · by_cases h1 : 21 ≤ n
    · rw [call_run tbl (f := 102) (fn := f102) rfl _ rfl, nm_out n (.inr h1)]
      simp [f102, f102body, h0, h1]
    · have h : n = 0 ∨ n = 1 ∨ n = 2 ∨ n = 3 ∨ n = 4 ∨ n = 5 ∨ n = 6 ∨ n = 7 ∨ n = 8 ∨ n = 9 ∨ n = 10 ∨ n = 11 ∨ n = 12 ∨ n = 13 ∨ n = 14 ∨ n = 15 ∨ n = 16 ∨ n = 17 ∨ n = 18 ∨ n = 19 ∨ n = 20 := by omega
      rcases h with rfl | rfl | rfl | rfl | rfl | rfl | rfl | rfl | rfl | rfl | rfl | rfl | rfl | rfl | rfl | rfl | rfl | rfl | rfl | rfl | rfl <;> exact callW_of tbl (k := 50) (by kernel_rfl)
theorem c105 (n : Int) : callW tbl 105 [.int .i64 n] = some (.str (nm n), []) := by
  by_cases h0 : n < 0 ∨ 21 ≤ n
  · rw [call_run tbl (f := 105) (fn := f105) rfl _ rfl, nm_out n h0]
    simp [f105, f105body, show ¬ n = 1 by omega, show ¬ n = 2 by omega, show ¬ n = 3 by omega, show ¬ n = 4 by omega, show ¬ n = 5 by omega, show ¬ n = 9 by omega, show ¬ n = 10 by omega, show ¬ n = 12 by omega, show ¬ n = 13 by omega, show ¬ n = 14 by omega, show ¬ n = 15 by omega, show ¬ n = 17 by omega, show ¬ n = 18 by omega, show ¬ n = 19 by omega, show ¬ n = 20 by omega]
  · have h : n = 0 ∨ n = 1 ∨ n = 2 ∨ n = 3 ∨ n = 4 ∨ n = 5 ∨ n = 6 ∨ n = 7 ∨ n = 8 ∨ n = 9 ∨ n = 10 ∨ n = 11 ∨ n = 12 ∨ n = 13 ∨ n = 14 ∨ n = 15 ∨ n = 16 ∨ n = 17 ∨ n = 18 ∨ n = 19 ∨ n = 20 := by omega
    rcases h with rfl | rfl | rfl | rfl | rfl | rfl | rfl | rfl | rfl | rfl | rfl | rfl | rfl | rfl | rfl | rfl | rfl | rfl | rfl | rfl | rfl <;> exact callW_of tbl (k := 100) (by kernel_rfl)
/-- is it a signal? -/
def kn (n : Int) : Bool := decide (nm n ≠ [])
theorem c92 (n : Int) : callW tbl 92 [.int .i64 n] = some (.bool (kn n), []) := by
  rw [call_run tbl (f := 92) (fn := f92) rfl _ rfl]
  by_cases h : nm n = [] <;> simp [f92, f92body, c102, kn, h]
def stp' (n : Int) : Bool := decide (n = 19) || decide (n = 20) || decide (n = 4) || decide (n = 5)
theorem c97 (n : Int) : callW tbl 97 [.int .i64 n] = some (.bool (stp' n), []) := by
  rw [call_run tbl (f := 97) (fn := f97) rfl _ rfl]
  by_cases h1 : n = 19
  · simp [f97, f97body, stp', h1]
  by_cases h2 : n = 20
  · simp [f97, f97body, stp', h2]
  by_cases h3 : n = 4
  · simp [f97, f97body, stp', h3]
  by_cases h4 : n = 5
  · simp [f97, f97body, stp', h4]
  · simp [f97, f97body, stp', h1, h2, h3, h4]
theorem c100 (n : Int) : callW tbl 100 [.int .i64 n] = some (.bool (stp' n), []) := by
  rw [call_run tbl (f := 100) (fn := f100) rfl _ rfl]
  by_cases h1 : n = 19
  · simp [f100, f100body, stp', h1]
  by_cases h2 : n = 20
  · simp [f100, f100body, stp', h2]
  by_cases h3 : n = 4
  · simp [f100, f100body, stp', h3]
  by_cases h4 : n = 5
  · simp [f100, f100body, stp', h4]
  · simp [f100, f100body, stp', h1, h2, h3, h4]
abbrev il (l : List Int) : AV := .sl 1 (l.map (.int .i64))
abbrev encS (p i c : List Int) : AV := .agg [il p, il i, il c]
theorem t99 (l : List Int) (hl : l.length ≤ 1000000) (n : Int) : ∀ (k i : Nat), i + k = l.length → run tbl (.cl [.tmp 4]) [.blk 0, .seq (f99r7.seq .ret)] (.loop [0, 1, 5] f99b6) [(0, il l), (1, .int .i64 n), (5, .int .i64 i)] [] = some (.bool (decide (n ∈ l.drop i)), [])
  | 0, i, h => by
    rw [run_loopD _ _ f99b6_eq]
    simp [show ¬ i < l.length by omega, show l.drop i = [] from List.drop_eq_nil_of_le (by omega)]
  | k + 1, i, h => by
    have hi : i < l.length := by omega
    have ih := t99 l hl n k (i + 1) (by omega)
    rw [Int.natCast_succ] at ih
    rw [run_loopD _ _ f99b6_eq, drop_step hi]
    by_cases e : l[i] = n
    · simp [-List.getElem_cons_drop, hi, e]
    · simp [-List.getElem_cons_drop, hi, e, Ne.symm e, wrapS i (by omega), ih]
theorem c99 (l : List Int) (hl : l.length ≤ 1000000) (n : Int) : callW tbl 99 [il l, .int .i64 n] = some (.bool (decide (n ∈ l)), []) := by
  rw [call_run tbl (f := 99) (fn := f99) rfl _ rfl]
  have h := t99 l hl n l.length 0 (by omega)
  simp at h
  simp [f99, f99body, h]
def at0 (l : List Int) (i : Nat) : Int := (l[i]?).getD 0
theorem at0_eq {l : List Int} {i : Nat} (h : i < l.length) : at0 l i = l[i] := by unfold at0; rw [List.getElem?_eq_getElem h]; rfl
def lsf (l : List Int) : Nat → Nat → Bool
  | 0, _ => true
  | k + 1, i => if nm (at0 l i) = [] ∨ (0 < i ∧ at0 l i ≤ at0 l (i - 1)) then false else lsf l k (i + 1)
theorem wrapN (i : Nat) (h : i < 9223372036854775807) : IntKind.i64.wrap (i : Int) = i := wrap64 _ (by omega) (by omega)
theorem t98 (l : List Int) (hl : l.length ≤ 1000000) : ∀ (k i : Nat), i + k = l.length → run tbl (.cl [.tmp 2]) [.blk 0, .seq (f98r7.seq .ret)] (.loop [0, 3] f98b6) [(0, il l), (3, .int .i64 i)] [] = some (.bool (lsf l k i), [])
  | 0, i, h => by
    rw [run_loopD _ _ f98b6_eq]
    simp [show ¬ i < l.length by omega, lsf]
  | k + 1, i, h => by
    have hi : i < l.length := by omega
    have ih := t98 l hl k (i + 1) (by omega)
    rw [Int.natCast_succ] at ih
    have hc := c105 l[i]
    rw [run_loopD _ _ f98b6_eq, lsf, at0_eq hi]
    by_cases h1 : nm l[i] = []
    · rw [if_pos (.inl h1)]
      rw [h1] at hc
      simp [hi, hc]
    · rcases i with _ | j
      · rw [if_neg (by rintro (hh | ⟨hh, _⟩); exact h1 hh; omega)]
        simp at hc ih
        simp [hi, hc, h1, ih]
      · have hj : j < l.length := by omega
        have w1 := wrapN j (by omega)
        have ws := wrapS (j + 1) (by omega)
        simp at ws hc ih
        rw [show j + 1 - 1 = j by omega, at0_eq hj]
        by_cases h2 : l[j + 1] ≤ l[j]
        · rw [if_pos (.inr ⟨by omega, h2⟩)]
          simp [hi, hj, show (j : Int) + 1 < l.length by omega, show (0 : Int) ≤ (j : Int) + 1 by omega, show (0 : Int) < (j : Int) + 1 by omega, hc, h1, w1, ws, h2]
        · rw [if_neg (by rintro (hh | ⟨_, hh⟩); exact h1 hh; exact h2 hh)]
          simp [hi, hj, show (j : Int) + 1 < l.length by omega, show (0 : Int) ≤ (j : Int) + 1 by omega, show (0 : Int) < (j : Int) + 1 by omega, hc, h1, w1, ws, h2, ih]
theorem c98 (l : List Int) (hl : l.length ≤ 1000000) : callW tbl 98 [il l] = some (.bool (lsf l l.length 0), []) := by
  rw [call_run tbl (f := 98) (fn := f98) rfl _ rfl]
  have h := t98 l hl l.length 0 (by omega)
  simp at h
  simp [f98, f98body, h]
theorem t86 (l : List Int) (hl : l.length ≤ 1000000) : ∀ (k i : Nat), i + k = l.length → run tbl (.cl [.tmp 4]) [.blk 0, .seq (f86r9.seq .ret)] (.loop [0, 1, 5] f86b8) [(0, il l), (1, il l), (5, .int .i64 i)] [] = some (.bool true, [])
  | 0, i, h => by
    rw [run_loopD _ _ f86b8_eq]
    simp [show ¬ i < l.length by omega]
  | k + 1, i, h => by
    have hi : i < l.length := by omega
    have ih := t86 l hl k (i + 1) (by omega)
    rw [Int.natCast_succ] at ih
    rw [run_loopD _ _ f86b8_eq]
    simp [hi, wrapS i (by omega), ih]
/-- a slice that holds the numbers: a list, or an empty one -/
inductive IsL : AV → List Int → Prop
  | il (l : List Int) : IsL (il l) l
  | e0 : IsL .e0 []
theorem c86 {x y : AV} {l : List Int} (hl : l.length ≤ 1000000) (hx : IsL x l) (hy : IsL y l) : callW tbl 86 [x, y] = some (.bool true, []) := by
  cases hx with
  | il l =>
    cases hy with
    | il =>
      rw [call_run tbl (f := 86) (fn := f86) rfl _ rfl]
      have h := t86 l hl l.length 0 (by omega)
      simp at h
      simp [f86, f86body, h]
    | e0 => exact callW_of tbl (k := 50) (by kernel_rfl)
  | e0 =>
    cases hy with
    | il => exact callW_of tbl (k := 50) (by kernel_rfl)
    | e0 => exact callW_of tbl (k := 50) (by kernel_rfl)
theorem c45 {a b c a' b' c' : AV} {p i q : List Int} (hp : p.length ≤ 1000000) (hi : i.length ≤ 1000000) (hq : q.length ≤ 1000000) (h1 : IsL a p) (h2 : IsL b i) (h3 : IsL c q) (k1 : IsL a' p) (k2 : IsL b' i) (k3 : IsL c' q) :
    callW tbl 45 [.agg [a, b, c], .agg [a', b', c']] = some (.bool true, []) := by
  rw [call_run tbl (f := 45) (fn := f45) rfl _ rfl]
  have e1 := c86 hp h1 k1
  have e2 := c86 hi h2 k2
  have e3 := c86 hq h3 k3
  cases h1 <;> cases h2 <;> cases h3 <;> cases k1 <;> cases k2 <;> cases k3 <;> (try simp only [il, List.map_nil] at e1 e2 e3) <;> simp [f45, f45body, e1, e2, e3]
theorem kn_range {n : Int} (h : kn n = true) : 1 ≤ n ∧ n ≤ 20 := by
  by_cases h0 : n < 0 ∨ 21 ≤ n
  · simp [kn, nm_out n h0] at h
  · have : n ≠ 0 := fun e => by subst e; simp [kn, nm] at h
    omega
abbrev Asc (l : List Int) : Prop := (∀ n ∈ l, kn n = true) ∧ l.Pairwise (· < ·)
theorem lsf_all (l : List Int) : ∀ (k i : Nat), i + k = l.length → lsf l k i = true → ∀ j, i ≤ j → j < l.length → kn (at0 l j) = true ∧ (0 < j → at0 l (j - 1) < at0 l j)
  | 0, i, h, _, j, h1, h2 => by omega
  | k + 1, i, h, hv, j, h1, h2 => by
    rw [lsf] at hv
    split at hv
    · cases hv
    · rename_i hc
      by_cases e : j = i
      · subst e
        refine ⟨?_, fun hp => ?_⟩
        · simp only [kn, decide_eq_true_eq]; exact fun hh => hc (.inl hh)
        · by_cases hq : at0 l (j - 1) < at0 l j
          · exact hq
          · exact absurd (.inr ⟨hp, by omega⟩) hc
      · exact lsf_all l k (i + 1) (by omega) hv j (by omega) h2
theorem lsf_none (l : List Int) : ∀ (k i : Nat), i + k = l.length → (∀ j, i ≤ j → j < l.length → kn (at0 l j) = true ∧ (0 < j → at0 l (j - 1) < at0 l j)) → lsf l k i = true
  | 0, _, _, _ => rfl
  | k + 1, i, h, ha => by
    have h0 := ha i (Nat.le_refl _) (by omega)
    rw [lsf, if_neg]
    · exact lsf_none l k (i + 1) (by omega) (fun j h1 h2 => ha j (by omega) h2)
    · rintro (hh | ⟨hp, hh⟩)
      · have := h0.1
        simp [kn, hh] at this
      · have := h0.2 hp
        omega
theorem lsf_iff (l : List Int) : lsf l l.length 0 = true ↔ Asc l := by
  constructor
  · intro h
    have ha := lsf_all l l.length 0 (by omega) h
    refine ⟨fun y hy => ?_, List.pairwise_iff_getElem.2 fun i j hi hj hij => ?_⟩
    · obtain ⟨j, hj, rfl⟩ := List.getElem_of_mem hy
      rw [← at0_eq hj]
      exact (ha j (by omega) hj).1
    · induction j with
      | zero => omega
      | succ j ih =>
        have h1 := (ha (j + 1) (by omega) hj).2 (by omega)
        rw [at0_eq hj, show j + 1 - 1 = j by omega, at0_eq (show j < l.length by omega)] at h1
        by_cases e : i = j
        · subst e; exact h1
        · have := ih (by omega) (by omega); omega
  · intro h
    refine lsf_none l l.length 0 (by omega) fun j _ hj => ⟨by rw [at0_eq hj]; exact h.1 _ (List.getElem_mem hj), fun hp => ?_⟩
    rw [at0_eq hj, at0_eq (show j - 1 < l.length by omega)]
    exact List.pairwise_iff_getElem.1 h.2 _ _ _ _ (by omega)
def bad1 (i c : List Int) : Nat → Nat → Bool
  | 0, _ => false
  | k + 1, n => if ((n : Int) = 9 ∨ (n : Int) = 19) ∧ ((n : Int) ∈ i ∨ (n : Int) ∈ c) ∨ (n : Int) ∈ i ∧ (n : Int) ∈ c then true else bad1 i c k (n + 1)
def bad2 (p i : List Int) : Nat → Nat → Bool
  | 0, _ => false
  | k + 1, n => if ((n : Int) ≠ 18 ∧ (n : Int) ∈ p ∧ (n : Int) ∈ i) ∨ (stp' n = true ∧ (n : Int) ∈ p ∧ (18 : Int) ∈ p) then true else bad2 p i k (n + 1)
abbrev tail85 : IC := (f85r10.seq (.block 2 (.loop [5, 1] f85b17))).seq (f85r18.seq .ret)
theorem t85b (p i c : List Int) (lp : p.length ≤ 1000) (li : i.length ≤ 1000) : ∀ (k n : Nat), n + k = 21 → run tbl (.cl [.tmp 2]) [.blk 2, .seq (f85r18.seq .ret)] (.loop [5, 1] f85b17) [(5, .int .i64 n), (1, .bptr 0 0)] [.box 27 3 (encS p i c)] = some (.int .i64 (if bad2 p i k n = true then 25 else 0), [])
  | 0, n, h => by
    obtain rfl : n = 21 := by omega
    rw [run_loopD _ _ f85b17_eq]
    simp [bad2]
  | k + 1, n, h => by
    have ih := t85b p i c lp li k (n + 1) (by omega)
    rw [Int.natCast_succ] at ih
    have h1 := c99 p (by omega) n
    have h2 := c99 i (by omega) n
    have h3 := c99 p (by omega) 18
    have h4 := c100 n
    rw [run_loopD _ _ f85b17_eq]
    by_cases a1 : (n : Int) = 18
    · have hs : stp' n = false := by rw [a1]; decide
      rw [hs] at h4
      rw [show bad2 p i (k + 1) n = bad2 p i k (n + 1) from by rw [bad2, if_neg (fun hh => hh.elim (fun x => x.1 a1) (fun x => by rw [hs] at x; exact absurd x.1 (by simp)))]]
      obtain rfl : n = 18 := by omega
      generalize bad2 p i k (18 + 1) = B at ih ⊢
      simp at h4 ih
      simp [h4, ih]
    · by_cases a2 : (n : Int) ∈ p
      · simp [a2] at h1
        by_cases a3 : (n : Int) ∈ i
        · rw [show bad2 p i (k + 1) n = true from by rw [bad2, if_pos (.inl ⟨a1, a2, a3⟩)]]
          simp [a3] at h2
          simp [show (n : Int) ≤ 20 by omega, a1, h1, h2]
        · simp [a3] at h2
          by_cases a4 : stp' n = true
          · rw [a4] at h4
            by_cases a5 : (18 : Int) ∈ p
            · rw [show bad2 p i (k + 1) n = true from by rw [bad2, if_pos (.inr ⟨a4, a2, a5⟩)]]
              simp [a5] at h3
              simp [show (n : Int) ≤ 20 by omega, a1, h1, h2, h3, h4]
            · rw [show bad2 p i (k + 1) n = bad2 p i k (n + 1) from by rw [bad2, if_neg (fun hh => hh.elim (fun x => a3 x.2.2) (fun x => a5 x.2.2))]]
              simp [a5] at h3
              simp [show (n : Int) ≤ 20 by omega, a1, h1, h2, h3, h4, wrapS n (by omega), ih]
          · simp at a4
            rw [a4] at h4
            rw [show bad2 p i (k + 1) n = bad2 p i k (n + 1) from by rw [bad2, if_neg (fun hh => hh.elim (fun x => a3 x.2.2) (fun x => by rw [a4] at x; exact absurd x.1 (by simp)))]]
            simp [show (n : Int) ≤ 20 by omega, a1, h1, h2, h4, wrapS n (by omega), ih]
      · simp [a2] at h1
        rw [show bad2 p i (k + 1) n = bad2 p i k (n + 1) from by rw [bad2, if_neg (fun hh => hh.elim (fun x => a2 x.2.1) (fun x => a2 x.2.1))]]
        cases a4 : stp' n <;> rw [a4] at h4 <;> simp [show (n : Int) ≤ 20 by omega, a1, h1, h4, wrapS n (by omega), ih]
theorem t85a (p i c : List Int) (lp : p.length ≤ 1000) (li : i.length ≤ 1000) (lc : c.length ≤ 1000) : ∀ (k n : Nat), n + k = 21 → run tbl (.cl [.tmp 2]) [.blk 0, .seq tail85] (.loop [1, 3] f85b9) [(1, .bptr 0 0), (3, .int .i64 n)] [.box 27 3 (encS p i c)] = some (.int .i64 (if bad1 i c k n = true then 1 else if bad2 p i 20 1 = true then 25 else 0), [])
  | 0, n, h => by
    obtain rfl : n = 21 := by omega
    rw [run_loopD _ _ f85b9_eq]
    have ht := t85b p i c lp li 20 1 (by omega)
    generalize bad2 p i 20 1 = B at ht ⊢
    simp at ht
    simp [bad1, ht]
  | k + 1, n, h => by
    have ih := t85a p i c lp li lc k (n + 1) (by omega)
    rw [Int.natCast_succ] at ih
    generalize bad2 p i 20 1 = B at ih ⊢
    have h1 := c99 i (by omega) n
    have h2 := c99 c (by omega) n
    have hle : (n : Int) ≤ 20 := by omega
    have ws := wrapS n (by omega)
    rw [run_loopD _ _ f85b9_eq]
    by_cases a1 : (n : Int) ∈ i
    · simp [a1] at h1
      by_cases a2 : (n : Int) ∈ c
      · rw [show bad1 i c (k + 1) n = true from by rw [bad1, if_pos (.inr ⟨a1, a2⟩)]]
        simp [a2] at h2
        by_cases b1 : (n : Int) = 9
        · obtain rfl : n = 9 := by omega
          simp at h1 h2
          simp [h1, h2]
        · by_cases b2 : (n : Int) = 19
          · obtain rfl : n = 19 := by omega
            simp at h1 h2
            simp [h1, h2]
          · simp [hle, b1, b2, h1, h2]
      · simp [a2] at h2
        by_cases b1 : (n : Int) = 9
        · rw [show bad1 i c (k + 1) n = true from by rw [bad1, if_pos (.inl ⟨.inl b1, .inl a1⟩)]]
          obtain rfl : n = 9 := by omega
          simp at h1 h2
          simp [h1, h2]
        · by_cases b2 : (n : Int) = 19
          · rw [show bad1 i c (k + 1) n = true from by rw [bad1, if_pos (.inl ⟨.inr b2, .inl a1⟩)]]
            obtain rfl : n = 19 := by omega
            simp at h1 h2
            simp [h1, h2]
          · rw [show bad1 i c (k + 1) n = bad1 i c k (n + 1) from by rw [bad1, if_neg (fun hh => hh.elim (fun x => x.1.elim b1 b2) (fun x => a2 x.2))]]
            simp [hle, b1, b2, h1, h2, ws, ih]
    · simp [a1] at h1
      by_cases a2 : (n : Int) ∈ c
      · simp [a2] at h2
        by_cases b1 : (n : Int) = 9
        · rw [show bad1 i c (k + 1) n = true from by rw [bad1, if_pos (.inl ⟨.inl b1, .inr a2⟩)]]
          obtain rfl : n = 9 := by omega
          simp at h1 h2
          simp [h1, h2]
        · by_cases b2 : (n : Int) = 19
          · rw [show bad1 i c (k + 1) n = true from by rw [bad1, if_pos (.inl ⟨.inr b2, .inr a2⟩)]]
            obtain rfl : n = 19 := by omega
            simp at h1 h2
            simp [h1, h2]
          · rw [show bad1 i c (k + 1) n = bad1 i c k (n + 1) from by rw [bad1, if_neg (fun hh => hh.elim (fun x => x.1.elim b1 b2) (fun x => a1 x.1))]]
            simp [hle, b1, b2, h1, h2, ws, ih]
      · simp [a2] at h2
        rw [show bad1 i c (k + 1) n = bad1 i c k (n + 1) from by rw [bad1, if_neg (fun hh => hh.elim (fun x => x.2.elim a1 a2) (fun x => a1 x.1))]]
        by_cases b1 : (n : Int) = 9
        · obtain rfl : n = 9 := by omega
          generalize bad1 i c k (9 + 1) = B1 at ih ⊢
          simp at h1 h2 ih
          simp [h1, h2, ih]
        · by_cases b2 : (n : Int) = 19
          · obtain rfl : n = 19 := by omega
            generalize bad1 i c k (19 + 1) = B1 at ih ⊢
            simp at h1 h2 ih
            simp [h1, h2, ih]
          · simp [hle, b1, b2, h1, h2, ws, ih]
/-- what Valid gives -/
def vd (p i c : List Int) : Int := if lsf p p.length 0 = false ∨ lsf i i.length 0 = false ∨ lsf c c.length 0 = false then 1 else if bad1 i c 20 1 = true then 1 else if bad2 p i 20 1 = true then 25 else 0
theorem c85 (p i c : List Int) (lp : p.length ≤ 1000) (li : i.length ≤ 1000) (lc : c.length ≤ 1000) : callW tbl 85 [encS p i c] = some (.int .i64 (vd p i c), []) := by
  rw [call_run tbl (f := 85) (fn := f85) rfl _ rfl]
  have h1 := c98 p (by omega)
  have h2 := c98 i (by omega)
  have h3 := c98 c (by omega)
  have ht := t85a p i c lp li lc 20 1 (by omega)
  unfold vd
  generalize lsf p p.length 0 = b1 at h1 ⊢
  generalize lsf i i.length 0 = b2 at h2 ⊢
  generalize lsf c c.length 0 = b3 at h3 ⊢
  generalize bad1 i c 20 1 = B1 at ht ⊢
  generalize bad2 p i 20 1 = B2 at ht ⊢
  simp at ht
  cases b1 <;> cases b2 <;> cases b3 <;> simp [f85, f85body, h1, h2, h3, ht]
end Go.Proofs.YtgppkhbidcgnlaaDoor
