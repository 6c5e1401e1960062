/- Patterns: what the program computes: spread, advance. No condition. -/
import Derived.Test.YtmlmijmnekdkpaaDoorWc
namespace Go.Proofs.YtmlmijmnekdkpaaDoor
open Go.PI
set_option maxRecDepth 100000
set_option maxHeartbeats 8000000
set_option linter.unusedSimpArgs false
/-- a row of states -/
def rwS (n : Nat) (s : Nat → Bool) : List AV := (List.range (n + 1)).map fun j => .bool (s j)
@[simp] theorem rwS_len (n : Nat) (s : Nat → Bool) : (rwS n s).length = n + 1 := by simp [rwS]
@[simp] theorem rwS_take (n : Nat) (s : Nat → Bool) : (rwS n s).take (n + 1) = rwS n s := List.take_of_length_le (by simp)
theorem rwS_get {n i : Nat} (h : i ≤ n) (s : Nat → Bool) : (rwS n s)[i]? = some (.bool (s i)) := by
  unfold rwS
  rw [List.getElem?_map, List.getElem?_range (by omega)]; rfl
@[simp] theorem rwS_ge (n : Nat) (s : Nat → Bool) (i : Nat) (h : i < (rwS n s).length) : (rwS n s)[i]'h = .bool (s i) := by
  have := rwS_get (n := n) (i := i) (by simp at h; omega) s
  rw [List.getElem?_eq_getElem h] at this
  exact Option.some.inj this
theorem rwS_rep (n : Nat) : List.replicate (n + 1) (AV.bool false) = rwS n fun _ => false := by
  apply List.ext_getElem
  · simp
  · intro i h1 h2; rw [List.getElem_replicate, rwS_ge]
def upd (s : Nat → Bool) (i : Nat) (b : Bool) (j : Nat) : Bool := if j = i then b else s j
theorem rwS_set {n i : Nat} (h : i ≤ n) (s : Nat → Bool) (b : Bool) : (rwS n s).set i (.bool b) = rwS n (upd s i b) := by
  apply List.ext_getElem?
  intro j
  rcases Nat.lt_or_ge j (n + 1) with hj | hj
  · by_cases e : i = j
    · subst e
      rw [List.getElem?_set_self (by simpa using hj), rwS_get h]; simp [upd]
    · rw [List.getElem?_set_ne e, rwS_get (by omega), rwS_get (by omega)]
      simp [upd, Ne.symm e]
  · rw [List.getElem?_eq_none (by simpa using hj), List.getElem?_eq_none (by simpa using hj)]
def sprF (p : List It) (s : Nat → Bool) : Nat → Bool
  | 0 => s 0
  | i + 1 => s (i + 1) || (sprF p s i && stI (p.getD i default))
def mixF (p : List It) (s : Nat → Bool) (i j : Nat) : Bool := if j ≤ i then sprF p s j else s j
theorem mixF_0 (p : List It) (s : Nat → Bool) : mixF p s 0 = s := by
  funext j; unfold mixF; split
  · obtain rfl : j = 0 := by omega
    rfl
  · rfl
theorem rwS_congr {n : Nat} {s t : Nat → Bool} (h : ∀ j ≤ n, s j = t j) : rwS n s = rwS n t := by
  unfold rwS
  apply List.map_congr_left
  intro j hj
  rw [h j (by simpa using List.mem_range.1 hj |> Nat.le_of_lt_succ)]
theorem t66 (p : List It) (hp : p.length ≤ 1000000) (g : Nat) (A : List AO) : ∀ (k i : Nat) (s : Nat → Bool) (Z : List AO), i + k = p.length →
    run tbl (.op []) [.blk 0] (.loop [8, 7, 6, 1] f66b6) [(8, .int .i64 i), (7, .int .i64 p.length), (6, pI p), (1, .ref A.length g 0 (p.length + 1))] (A ++ .row 4 1 g (rwS p.length (mixF p s i)) :: Z)
     = some (.tup [], A ++ .row 4 1 g (rwS p.length (mixF p s p.length)) :: (Z ++ (p.drop i).map fun x => .box 52 4 (encI x)))
  | 0, i, s, Z, h => by
    rw [run_loopD _ _ f66b6_eq, List.drop_eq_nil_of_le (by omega)]
    obtain rfl : i = p.length := by omega
    simp
  | k + 1, i, s, Z, h => by
    have hi : i < p.length := by omega
    have ih := fun Z => t66 p hp g A k (i + 1) s Z (by omega)
    simp only [Int.natCast_succ] at ih
    have hg := rwS_get (n := p.length) (i := i) (by omega) (mixF p s i)
    rw [run_loopD _ _ f66b6_eq]
    have hgd : p.getD i default = p[i] := by simp [hi]
    have hm : mixF p s i i = sprF p s i := by simp [mixF]
    rw [hm] at hg
    cases h1 : sprF p s i
    · have e1 : mixF p s (i + 1) = mixF p s i := by
        funext j; unfold mixF
        by_cases e : j ≤ i
        · rw [if_pos e, if_pos (show j ≤ i + 1 by omega)]
        · rw [if_neg e]
          split
          · obtain rfl : j = i + 1 := by omega
            simp [sprF, h1]
          · rfl
      rw [e1] at ih
      rw [h1] at hg
      simp [hi, show (0 : Int) ≤ (i : Int) + 1 by omega, show i < p.length + 1 by omega, show i + 1 ≤ p.length by omega, hm, h1, wrapS i (by omega), ih, drop_step hi, -List.getElem_cons_drop, -List.map_drop]
    · by_cases h2 : p[i].kd = 3
      · have e1 : mixF p s (i + 1) = upd (mixF p s i) (i + 1) true := by
          funext j; unfold mixF upd
          by_cases e : j = i + 1
          · subst e
            rw [if_pos (Nat.le_refl _), if_pos rfl, sprF, h1, hgd]
            simp [stI, h2]
          · rw [if_neg e]
            show (if j ≤ i + 1 then sprF p s j else s j) = if j ≤ i then sprF p s j else s j
            by_cases e2 : j ≤ i
            · rw [if_pos (by omega), if_pos e2]
            · rw [if_neg (by omega), if_neg e2]
        have hst := rwS_set (n := p.length) (i := i + 1) (by omega) (mixF p s i) true
        rw [← e1] at hst
        rw [h1] at hg
        simp [hi, show (0 : Int) ≤ (i : Int) + 1 by omega, show i < p.length + 1 by omega, show i + 1 ≤ p.length by omega, hm, h1, eq_true h2, wrapS i (by omega), ih, hst, drop_step hi, -List.getElem_cons_drop, -List.map_drop]
      · have e1 : mixF p s (i + 1) = mixF p s i := by
          funext j; unfold mixF
          by_cases e : j ≤ i
          · rw [if_pos e, if_pos (show j ≤ i + 1 by omega)]
          · rw [if_neg e]
            split
            · obtain rfl : j = i + 1 := by omega
              rw [sprF, h1, hgd]
              simp [stI, h2]
            · rfl
        rw [e1] at ih
        rw [h1] at hg
        simp [hi, show (0 : Int) ≤ (i : Int) + 1 by omega, show i < p.length + 1 by omega, show i + 1 ≤ p.length by omega, hm, h1, h2, wrapS i (by omega), ih, drop_step hi, -List.getElem_cons_drop, -List.map_drop]
theorem c66 (p : List It) (hp : p.length ≤ 1000000) (g : Nat) (A : List AO) (s : Nat → Bool) (Z : List AO) :
    callV tbl 66 [pI p, .ref A.length g 0 (p.length + 1)] (A ++ .row 4 1 g (rwS p.length s) :: Z) = some (.tup [], A ++ .row 4 1 g (rwS p.length (sprF p s)) :: (Z ++ p.map fun x => .box 52 4 (encI x))) := by
  rw [callV_run tbl (f := 66) (fn := f66) rfl _ _ rfl]
  have h := t66 p hp g A p.length 0 s Z (by omega)
  rw [mixF_0, rwS_congr (s := mixF p s p.length) (t := sprF p s) (fun j hj => if_pos hj)] at h
  simp at h
  simp [f66, f66body, h]
/-- the states that a byte reaches, without spread; by the first i items -/
def advP (p : List It) (s : Nat → Bool) (b : UInt8) (i : Nat) : Nat → Bool
  | 0 => decide (0 < i) && s 0 && stI (p.getD 0 default)
  | m + 1 => (decide (m + 1 < i) && s (m + 1) && stI (p.getD (m + 1) default)) || (decide (m < i) && s m && !stI (p.getD m default) && tkI (p.getD m default) b)
theorem advP_0 (p : List It) (s : Nat → Bool) (b : UInt8) : advP p s b 0 = fun _ => false := by
  funext j; cases j <;> simp [advP]
theorem advP_no {p : List It} {s : Nat → Bool} {b : UInt8} {i : Nat} (h : s i = false) : advP p s b (i + 1) = advP p s b i := by
  funext j
  cases j with
  | zero =>
    simp only [advP]
    cases i with
    | zero => simp [h]
    | succ i => simp
  | succ m =>
    simp only [advP]
    congr 1
    · by_cases e : m + 1 = i
      · rw [e, h]; simp
      · rw [show decide (m + 1 < i + 1) = decide (m + 1 < i) from decide_eq_decide.2 (by omega)]
    · by_cases e : m = i
      · rw [e, h]; simp
      · rw [show decide (m < i + 1) = decide (m < i) from decide_eq_decide.2 (by omega)]
theorem advP_star {p : List It} {s : Nat → Bool} {b : UInt8} {i : Nat} (h : s i = true) (h2 : stI (p.getD i default) = true) : advP p s b (i + 1) = upd (advP p s b i) i true := by
  funext j
  unfold upd
  cases j with
  | zero =>
    simp only [advP]
    cases i with
    | zero => simp [h, h2, -List.getD_eq_getElem?_getD]
    | succ i => simp
  | succ m =>
    simp only [advP]
    by_cases e : m + 1 = i
    · subst e; simp [h, h2, -List.getD_eq_getElem?_getD]
    · rw [if_neg e, show decide (m + 1 < i + 1) = decide (m + 1 < i) from decide_eq_decide.2 (by omega)]
      congr 1
      by_cases e : m = i
      · subst e; simp [h2, -List.getD_eq_getElem?_getD]
      · rw [show decide (m < i + 1) = decide (m < i) from decide_eq_decide.2 (by omega)]
theorem advP_fit {p : List It} {s : Nat → Bool} {b : UInt8} {i : Nat} (h : s i = true) (h2 : stI (p.getD i default) = false) (h3 : tkI (p.getD i default) b = true) : advP p s b (i + 1) = upd (advP p s b i) (i + 1) true := by
  funext j
  unfold upd
  cases j with
  | zero =>
    simp only [advP]
    cases i with
    | zero => simp [h2, -List.getD_eq_getElem?_getD]
    | succ i => simp
  | succ m =>
    simp only [advP]
    by_cases e : m = i
    · subst e; simp [h, h2, h3, -List.getD_eq_getElem?_getD]
    · rw [if_neg (by omega), show decide (m < i + 1) = decide (m < i) from decide_eq_decide.2 (by omega)]
      congr 1
      by_cases e : m + 1 = i
      · subst e; simp [h2, -List.getD_eq_getElem?_getD]
      · rw [show decide (m + 1 < i + 1) = decide (m + 1 < i) from decide_eq_decide.2 (by omega)]
theorem advP_un {p : List It} {s : Nat → Bool} {b : UInt8} {i : Nat} (h2 : stI (p.getD i default) = false) (h3 : tkI (p.getD i default) b = false) : advP p s b (i + 1) = advP p s b i := by
  funext j
  cases j with
  | zero =>
    simp only [advP]
    cases i with
    | zero => simp [h2, -List.getD_eq_getElem?_getD]
    | succ i => simp
  | succ m =>
    simp only [advP]
    congr 1
    · by_cases e : m + 1 = i
      · rw [e, h2]; simp
      · rw [show decide (m + 1 < i + 1) = decide (m + 1 < i) from decide_eq_decide.2 (by omega)]
    · by_cases e : m = i
      · rw [e, h3]; simp
      · rw [show decide (m < i + 1) = decide (m < i) from decide_eq_decide.2 (by omega)]
/-- what the walk asks of an item -/
def OkI (x : It) : Prop := x.st.length ≤ 1000000 ∧ (x.kd = 1 → x.tx ≠ [])
theorem t68 (p : List It) (hp : p.length ≤ 1000000) (hI : ∀ x ∈ p, OkI x) (s : Nat → Bool) (b : UInt8) (A : List AO) : ∀ (k i : Nat) (Z : List AO), i + k = p.length →
    run tbl (.cl [.tmp 6]) [.blk 0, .seq (f68r12.seq (f68r13.seq .ret))] (.loop [16, 15, 0, 14, 1, 7, 2] f68b11) [(16, .int .i64 i), (15, .int .i64 p.length), (0, pI p), (14, pI p), (1, .sl 1 (rwS p.length s)), (7, .ref A.length 0 0 (p.length + 1)), (2, .int .u8 b.toNat)] (A ++ .row 4 1 0 (rwS p.length (advP p s b i)) :: Z)
     = some (.ref 0 0 0 (p.length + 1), [.row 4 1 0 (rwS p.length (sprF p (advP p s b p.length)))])
  | 0, i, Z, h => by
    rw [run_loopD _ _ f68b11_eq]
    obtain rfl : i = p.length := by omega
    have h66 := fun Z => c66 p hp 0 A (advP p s b p.length) Z
    simp [h66]
  | k + 1, i, Z, h => by
    have hi : i < p.length := by omega
    have ih := fun Z => t68 p hp hI s b A k (i + 1) Z (by omega)
    simp only [Int.natCast_succ] at ih
    rw [run_loopD _ _ f68b11_eq]
    have hgd : p.getD i default = p[i] := by simp [hi]
    obtain ⟨o1, o2⟩ := hI p[i] (List.getElem_mem hi)
    cases h1 : s i
    · rw [advP_no h1] at ih
      simp [hi, show i < p.length + 1 by omega, h1, wrapS i (by omega), ih]
    · by_cases h2 : p[i].kd = 3
      · rw [advP_star h1 (by rw [hgd]; simp [stI, h2]), ← rwS_set (by omega)] at ih
        simp [hi, show i < p.length + 1 by omega, h1, eq_true h2, wrapS i (by omega), ih]
      · have hs : stI (p.getD i default) = false := by rw [hgd]; simp [stI, h2]
        have h76 := c76 p[i] b o1 o2
        cases h3 : tkI p[i] b
        · rw [advP_un hs (by rw [hgd]; exact h3)] at ih
          rw [h3] at h76
          simp [hi, show i < p.length + 1 by omega, h1, h2, h76, wrapS i (by omega), ih]
        · rw [advP_fit h1 hs (by rw [hgd]; exact h3), ← rwS_set (by omega)] at ih
          rw [h3] at h76
          simp [hi, show i < p.length + 1 by omega, show i + 1 ≤ p.length by omega, show (0 : Int) ≤ (i : Int) + 1 by omega, h1, h2, h76, wrapS i (by omega), ih]
theorem c68 (p : List It) (hp : p.length ≤ 1000000) (hI : ∀ x ∈ p, OkI x) (s : Nat → Bool) (b : UInt8) : callW tbl 68 [pI p, .sl 1 (rwS p.length s), .int .u8 b.toNat] = some (.ref 0 0 0 (p.length + 1), [.row 4 1 0 (rwS p.length (sprF p (advP p s b p.length)))]) := by
  rw [call_run tbl (f := 68) (fn := f68) rfl _ rfl]
  have h := t68 p hp hI s b [.row 4 1 0 []] p.length 0 [] (by omega)
  rw [advP_0, ← rwS_rep] at h
  simp at h
  simp [f68, f68body, wrapS p.length (by omega), h, show p.length + 1 ≤ 1073741824 by omega, show (0 : Int) ≤ (p.length : Int) + 1 by omega, show p.length ≤ 1073741823 by omega]
end Go.Proofs.YtmlmijmnekdkpaaDoor
