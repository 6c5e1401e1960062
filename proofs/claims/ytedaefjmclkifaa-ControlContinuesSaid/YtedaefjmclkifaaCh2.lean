/- ControlChildren: the law's function returns true, for every launch and every two numbers. No condition. -/
import Derived.Test.YtedaefjmclkifaaChild
namespace Go.Proofs.Ytedaefjmclkifaa
open Go.PI
set_option maxRecDepth 100000
set_option maxHeartbeats 8000000
abbrev outQ (qs : List Q) : Option (AV × List AO) := some (.ref 0 0 0 qs.length, [.row 53 12 0 (qs.map encQ)])
abbrev encL (g f n : Bool) (ig re : List Int) : AV := .agg [.bool g, .bool f, .sl 1 (ig.map (.int .i64)), .sl 1 (re.map (.int .i64)), .bool n]
abbrev qI (n : Int) : Q := ⟨14, 0, 0, n, 1, 0, []⟩
abbrev qR (n : Int) : Q := ⟨14, 0, 0, n, 0, 0, []⟩
def pre (g f n : Bool) (p : Int) : List Q :=
  (if g then [⟨12, 0, p, 0, 0, 0, []⟩] else []) ++ (if f && p == 0 then [⟨13, 0, 0, 0, 0, 0, []⟩] else []) ++ (if n then [⟨3, 0, 0, 0, 0, 65, [47, 100, 101, 118, 47, 110, 117, 108, 108]⟩] else [])
def qs (g f n : Bool) (ig re : List Int) (p : Int) : List Q := pre g f n p ++ ig.map qI ++ re.map qR
theorem pre_length (g f n : Bool) (p : Int) : (pre g f n p).length ≤ 3 := by
  unfold pre
  simp only [List.length_append]
  cases g <;> cases n <;> by_cases h : (f && p == 0) = true <;> simp [h]
theorem qs_length (g f n : Bool) (ig re : List Int) (p : Int) : (qs g f n ig re p).length ≤ ig.length + re.length + 3 := by
  have := pre_length g f n p
  unfold qs
  simp only [List.length_append, List.length_map]
  omega
def ps (g f : Bool) (p d : Int) : List Q :=
  (if g then [⟨12, d, if p = 0 then d else p, 0, 0, 0, []⟩] else []) ++ (if f && p == 0 then [⟨13, d, 0, 0, 0, 0, []⟩] else [])
theorem ps_length (g f : Bool) (p d : Int) : (ps g f p d).length ≤ 2 := by
  unfold ps
  simp only [List.length_append]
  cases g <;> by_cases h : (f && p == 0) = true <;> simp [h]
theorem c14 (g f n : Bool) (ig re : List Int) (p d : Int) : callW tbl 14 [encL g f n ig re, .int .i64 p, .int .i64 d] = outQ (ps g f p d) := by
  rw [call_run tbl (f := 14) (fn := f14) rfl _ rfl]
  unfold ps
  cases g <;> cases f <;> by_cases hp : p = 0 <;> simp [f14, f14body, c24, hp]
theorem c15 (g f n : Bool) (ig re : List Int) (p d : Int) : callW tbl 15 [encL g f n ig re, .int .i64 p, .int .i64 d] = outQ (ps g f p d) := by
  rw [call_run tbl (f := 15) (fn := f15) rfl _ rfl]
  unfold ps
  cases g <;> cases f <;> by_cases hp : p = 0 <;> simp [f15, f15body, hp]
theorem c10 (g f n : Bool) (ig re : List Int) : callW tbl 10 [encL g f n ig re, .agg [.int .i64 0, .int .i64 0, .int .i64 0, .e0, .e0, .str [], .bool false]] = some (.bool (decide (ig.length ≤ 60) && decide (re.length ≤ 60)), []) := by
  rw [call_run tbl (f := 10) (fn := f10) rfl _ rfl]
  by_cases h1 : (ig.length : Int) ≤ 60 <;> by_cases h2 : (re.length : Int) ≤ 60 <;> simp [f10, f10body, h1, h2] <;> omega

theorem t12b (re : List Int) (h0 h1 h2 : AO) : ∀ (k i g : Nat) (rs : List Q), i + k = re.length → rs.length + k ≤ 1000 ∧ re.length ≤ 1000 → run tbl (.cl [.tmp 4]) [.blk 2, .seq (f12r21.seq .ret)] (.loop [6, 54, 53, 52] f12b20) [(6, .ref 3 g 0 rs.length), (54, .int .i64 i), (53, .int .i64 re.length), (52, .sl 1 (re.map (.int .i64)))] [h0, h1, h2, .row 53 12 g (rs.map encQ)] = outQ (rs ++ (re.drop i).map qR)
  | 0, i, g, rs, h, hl => by
    rw [run_loopD _ _ f12b20_eq]
    simp [show ¬ i < re.length by omega, show re.drop i = [] from List.drop_eq_nil_of_le (by omega)]
  | k + 1, i, g, rs, h, hl => by
    have hi : i < re.length := by omega
    have ih := t12b re h0 h1 h2 k (i + 1) (g + 1) (rs ++ [qR re[i]]) (by omega) (by simp; omega)
    rw [Int.natCast_succ] at ih
    rw [run_loopD _ _ f12b20_eq]
    simp [-List.map_drop] at ih
    simp [-List.map_drop, -List.getElem_cons_drop, hi, wrapS i (by omega), show rs.length ≤ 1073741823 by omega, ih, drop_step hi]

theorem t12a (gr fr nu : Bool) (ig re : List Int) (p : Int) (h0 h1 : AO) : ∀ (k i g : Nat) (rs : List Q), i + k = ig.length → rs.length + k ≤ 500 ∧ ig.length ≤ 60 → re.length ≤ 60 → run tbl (.cl [.tmp 4]) [.blk 0, .seq ((f12r15.seq (.block 2 (.loop [6, 54, 53, 52] f12b20))).seq (f12r21.seq .ret))] (.loop [6, 40, 39, 5, 38] f12b14) [(6, .ref 3 g 0 rs.length), (40, .int .i64 i), (39, .int .i64 ig.length), (5, .bptr 2 0), (38, .sl 1 (ig.map (.int .i64)))] [h0, h1, .box 56 6 (.agg [.bool gr, .bool fr, .sl 1 (ig.map (.int .i64)), .sl 1 (re.map (.int .i64)), .bool nu, .int .i64 p]), .row 53 12 g (rs.map encQ)] = outQ (rs ++ (ig.drop i).map qI ++ re.map qR)
  | 0, i, g, rs, h, hl, hre => by
    have h2 := t12b re (h0) (h1) (.box 56 6 (.agg [.bool gr, .bool fr, .sl 1 (ig.map (.int .i64)), .sl 1 (re.map (.int .i64)), .bool nu, .int .i64 p])) re.length 0 g rs (by omega) (by omega)
    rw [run_loopD _ _ f12b14_eq]
    simp at h2
    simp [show ¬ i < ig.length by omega, show ig.drop i = [] from List.drop_eq_nil_of_le (by omega), h2]
  | k + 1, i, g, rs, h, hl, hre => by
    have hi : i < ig.length := by omega
    have ih := t12a gr fr nu ig re p h0 h1 k (i + 1) (g + 1) (rs ++ [qI ig[i]]) (by omega) (by simp; omega) hre
    rw [Int.natCast_succ] at ih
    rw [run_loopD _ _ f12b14_eq]
    simp [-List.map_drop] at ih
    simp [-List.map_drop, -List.getElem_cons_drop, hi, wrapS i (by omega), show rs.length ≤ 1073741823 by omega, ih, drop_step hi]
theorem c12 (g f n : Bool) (ig re : List Int) (p : Int) (hg : ig.length ≤ 60) (hr : re.length ≤ 60) : callW tbl 12 [encL g f n ig re, .int .i64 p] = outQ (qs g f n ig re p) := by
  rw [call_run tbl (f := 12) (fn := f12) rfl _ rfl]
  have e := t12a g f n ig re p (.box 34 5 (encL g f n ig re)) (.row 53 12 0 []) ig.length 0 (pre g f n p).length (pre g f n p) (by omega) ⟨by have := pre_length g f n p; omega, hg⟩ hr
  unfold qs
  cases g <;> cases f <;> cases n <;> by_cases hp : p = 0 <;> simp [hp, pre] at e <;> simp [f12, f12body, c24, hp, pre, e]

theorem t13b (re : List Int) (h0 h1 : AO) : ∀ (k i g : Nat) (rs : List Q), i + k = re.length → rs.length + k ≤ 1000 ∧ re.length ≤ 1000 → run tbl (.cl [.tmp 4]) [.blk 2, .seq (f13r20.seq .ret)] (.loop [5, 49, 48, 47] f13b19) [(5, .ref 2 g 0 rs.length), (49, .int .i64 i), (48, .int .i64 re.length), (47, .sl 1 (re.map (.int .i64)))] [h0, h1, .row 53 12 g (rs.map encQ)] = outQ (rs ++ (re.drop i).map qR)
  | 0, i, g, rs, h, hl => by
    rw [run_loopD _ _ f13b19_eq]
    simp [show ¬ i < re.length by omega, show re.drop i = [] from List.drop_eq_nil_of_le (by omega)]
  | k + 1, i, g, rs, h, hl => by
    have hi : i < re.length := by omega
    have ih := t13b re h0 h1 k (i + 1) (g + 1) (rs ++ [qR re[i]]) (by omega) (by simp; omega)
    rw [Int.natCast_succ] at ih
    rw [run_loopD _ _ f13b19_eq]
    simp [-List.map_drop] at ih
    simp [-List.map_drop, -List.getElem_cons_drop, hi, wrapS i (by omega), show rs.length ≤ 1073741823 by omega, ih, drop_step hi]

theorem t13a (gr fr nu : Bool) (ig re : List Int) (p : Int) (h1 : AO) : ∀ (k i g : Nat) (rs : List Q), i + k = ig.length → rs.length + k ≤ 500 ∧ ig.length ≤ 60 → re.length ≤ 60 → run tbl (.cl [.tmp 4]) [.blk 0, .seq ((f13r14.seq (.block 2 (.loop [5, 49, 48, 47] f13b19))).seq (f13r20.seq .ret))] (.loop [5, 36, 35, 2, 34] f13b13) [(5, .ref 2 g 0 rs.length), (36, .int .i64 i), (35, .int .i64 ig.length), (2, .bptr 0 0), (34, .sl 1 (ig.map (.int .i64)))] [.box 34 5 (.agg [.bool gr, .bool fr, .sl 1 (ig.map (.int .i64)), .sl 1 (re.map (.int .i64)), .bool nu]), h1, .row 53 12 g (rs.map encQ)] = outQ (rs ++ (ig.drop i).map qI ++ re.map qR)
  | 0, i, g, rs, h, hl, hre => by
    have h2 := t13b re (.box 34 5 (.agg [.bool gr, .bool fr, .sl 1 (ig.map (.int .i64)), .sl 1 (re.map (.int .i64)), .bool nu])) (h1) re.length 0 g rs (by omega) (by omega)
    rw [run_loopD _ _ f13b13_eq]
    simp at h2
    simp [show ¬ i < ig.length by omega, show ig.drop i = [] from List.drop_eq_nil_of_le (by omega), h2]
  | k + 1, i, g, rs, h, hl, hre => by
    have hi : i < ig.length := by omega
    have ih := t13a gr fr nu ig re p h1 k (i + 1) (g + 1) (rs ++ [qI ig[i]]) (by omega) (by simp; omega) hre
    rw [Int.natCast_succ] at ih
    rw [run_loopD _ _ f13b13_eq]
    simp [-List.map_drop] at ih
    simp [-List.map_drop, -List.getElem_cons_drop, hi, wrapS i (by omega), show rs.length ≤ 1073741823 by omega, ih, drop_step hi]
theorem c13 (g f n : Bool) (ig re : List Int) (p : Int) (hg : ig.length ≤ 60) (hr : re.length ≤ 60) : callW tbl 13 [encL g f n ig re, .int .i64 p] = outQ (qs g f n ig re p) := by
  rw [call_run tbl (f := 13) (fn := f13) rfl _ rfl]
  have e := t13a g f n ig re p (.row 53 12 0 []) ig.length 0 (pre g f n p).length (pre g f n p) (by omega) ⟨by have := pre_length g f n p; omega, hg⟩ hr
  unfold qs
  cases g <;> cases f <;> cases n <;> by_cases hp : p = 0 <;> simp [hp, pre] at e <;> simp [f13, f13body, hp, pre, e]

theorem c4 (g f n : Bool) (ig re : List Int) (p d : Int) : callW tbl 4 [encL g f n ig re, .int .i64 p, .int .i64 d] = some (.bool true, []) := by
  rw [call_run tbl (f := 4) (fn := f4) rfl _ rfl]
  by_cases h1 : ig.length ≤ 60 <;> by_cases h2 : re.length ≤ 60
  · have h12 := c12 g f n ig re p h1 h2
    have h13 := c13 g f n ig re p h1 h2
    have h14 := c14 g f n ig re p d
    have h15 := c15 g f n ig re p d
    have h11 := c11 (qs g f n ig re p) (by have := qs_length g f n ig re p; omega)
    have h11' := c11 (ps g f p d) (by have := ps_length g f p d; omega)
    simp [f4, f4body, c10, h1, h2, c9, h11, h12, h13, h14, h15, h11']
  all_goals simp [f4, f4body, c10, h1, h2, c9]
end Go.Proofs.Ytedaefjmclkifaa
