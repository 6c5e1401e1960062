/- Jobs: Add on both sides; the law JobsAdds. No condition. -/
import Derived.Test.YtpphfbfmoipoaaaDoorJl
import Derived.Test.YtpphfbfmoipoaaaDoorJv
namespace Go.Proofs.YtpphfbfmoipoaaaDoor
open Go.PI
set_option maxRecDepth 100000
set_option maxHeartbeats 8000000
set_option linter.unusedSimpArgs false
/-- the error of Add -/
def addE (l : List Jb) (g : Int) (ps : List Int) (t : List UInt8) : Int :=
  if 32 ≤ l.length then 4 else if numB g = false ∨ ps = [] then 1 else if ps.all numB = false then 1 else if dupR l ps ps.length 0 = true then 9 else if 4096 < t.length then 3 else 0
def newJ (l : List Jb) (g : Int) (ps : List Int) (t : List UInt8) : Jb := ⟨(num l : Nat), g, 1, ps, List.replicate ps.length (-1), t, true⟩
abbrev errA (l : List Jb) (e : Int) : AV × List AO := (.tup [jl l, .int .i64 0, .int .i64 e], [])
def okA (l : List Jb) (g : Int) (ps : List Int) (t : List UInt8) : AV × List AO := (.tup [.ref 0 0 0 (l.length + 1), .int .i64 (num l : Nat), .int .i64 0], [.row 42 7 0 ((l ++ [newJ l g ps t]).map encJ)])
def outA (l : List Jb) (g : Int) (ps : List Int) (t : List UInt8) : AV × List AO := if addE l g ps t = 0 then okA l g ps t else errA l (addE l g ps t)
abbrev RA : Fin := .cl [.tmp 8, .tmp 9, .tmp 10]
theorem t11a (l : List Jb) (g : Int) (ps : List Int) (hp : ps.length ≤ 1000000) (t : List UInt8) (T : IC) (X : AV × List AO) (hX : run tbl RA [] T [(35, .bool false), (32, il ps), (3, .str t), (1, .int .i64 g), (2, il ps), (33, .int .i64 ps.length), (34, .int .i64 ps.length), (0, jl l)] [.row 42 7 0 []] = some X) :
    ∀ (k i : Nat), i + k = ps.length → run tbl RA [.blk 0, .seq T] (.loop [33, 2, 1, 3, 32, 34, 0] f11b11) [(33, .int .i64 ps.length), (2, il ps), (1, .int .i64 g), (3, .str t), (32, il ps), (34, .int .i64 i), (0, jl l)] [.row 42 7 0 []] = some (if (ps.drop i).all numB = false then errA l 1 else X)
  | 0, i, h => by
    obtain rfl : i = ps.length := by omega
    rw [run_loopD _ _ f11b11_eq]
    simp [hX]
  | k + 1, i, h => by
    have hi : i < ps.length := by omega
    have ih := t11a l g ps hp t T X hX k (i + 1) (by omega)
    rw [Int.natCast_succ] at ih
    have ws := wrapS i (by omega)
    have e1 := c33 ps[i]
    rw [run_loopD _ _ f11b11_eq, drop_step hi]
    cases hn : numB ps[i]
    · rw [hn] at e1
      simp [hi, e1, hn, -List.getElem_cons_drop, -List.map_drop]
    · rw [hn] at e1
      simp [hi, e1, hn, ws, ih, -List.getElem_cons_drop, -List.map_drop]
theorem c35 (n : Int) (l : List Int) (hl : l.length ≤ 1000000) : callW tbl 35 [il l, .int .i64 n] = some (.bool (decide (n ∈ l)), []) := by
  rw [call_run tbl (f := 35) (fn := f35) rfl _ rfl]
  have e := c72 n l hl
  have h : ∀ (l : List Int) (i : Nat), ixN n l i = none ↔ ¬ n ∈ l := by
    intro l
    induction l with
    | nil => intro i; simp [ixN]
    | cons x r ih =>
      intro i
      simp only [ixN]
      by_cases hx : n = x
      · simp [hx]
      · simp [hx, ih]
  cases hx : ixN n l 0 with
  | none =>
    rw [hx] at e
    simp only [oi] at e
    have := (h l 0).1 hx
    simp [f35, f35body, e, this]
  | some i =>
    rw [hx] at e
    simp only [oi] at e
    have : n ∈ l := by
      by_cases hm : n ∈ l
      · exact hm
      · rw [(h l 0).2 hm] at hx; cases hx
    simp [f35, f35body, e, this]
theorem t11b (l : List Jb) (hl : l.length ≤ 1000000) (hb : ∀ j ∈ l, BJ j) (hm : ∀ p, memO p l 0 = none ↔ memB p l = false) (g : Int) (ps : List Int) (hp : ps.length ≤ 1000000) (t : List UInt8) (T : IC) (X : AV × List AO) (hX : run tbl RA [] T [(46, .bool false), (2, il ps), (43, il ps), (1, .int .i64 g), (3, .str t), (44, .int .i64 ps.length), (45, .int .i64 ps.length), (0, jl l)] [.row 42 7 0 []] = some X) :
    ∀ (k i : Nat), i + k = ps.length → run tbl RA [.blk 2, .seq T] (.loop [44, 3, 1, 43, 2, 45, 0] f11b19) [(44, .int .i64 ps.length), (3, .str t), (1, .int .i64 g), (43, il ps), (2, il ps), (45, .int .i64 i), (0, jl l)] [.row 42 7 0 []] = some (if dupR l ps k i = true then errA l 9 else X)
  | 0, i, h => by
    obtain rfl : i = ps.length := by omega
    rw [run_loopD _ _ f11b19_eq]
    simp [hX, dupR]
  | k + 1, i, h => by
    have hi : i < ps.length := by omega
    have hg : ps[i]? = some ps[i] := List.getElem?_eq_getElem hi
    have ih := t11b l hl hb hm g ps hp t T X hX k (i + 1) (by omega)
    rw [Int.natCast_succ] at ih
    have ws := wrapS i (by omega)
    have hD : dupR l ps (k + 1) i = (memB ps[i] l || decide (ps[i] ∈ ps.take i) || dupR l ps k (i + 1)) := by simp [dupR, hg]
    rw [hD]
    generalize hpi : ps[i] = p
    have e1 := c34 p l hl hb
    have e2 := c35 p (ps.take i) (by simp; omega)
    have hs : (im ps).take i = im (ps.take i) := by simp
    have hmp := hm p
    rw [run_loopD _ _ f11b19_eq]
    cases hq : memO p l 0 with
    | none =>
      have hq2 := hmp.1 hq
      rw [hq] at e1
      simp only [o1, o2, oi, Option.map_none] at e1
      by_cases ht : p ∈ ps.take i
      · simp [ht] at e2
        simp [hi, hpi, e1, e2, ht, hq2, show i ≤ ps.length by omega, hs, -List.map_take]
      · simp [ht] at e2
        simp [hi, hpi, e1, e2, ht, hq2, ws, ih, show i ≤ ps.length by omega, hs, -List.map_take]
    | some r =>
      have hq2 : memB p l = true := by
        cases hx : memB p l
        · rw [hmp.2 hx] at hq; cases hq
        · rfl
      rw [hq] at e1
      simp only [o1, o2, oi, Option.map_some] at e1
      simp [hi, hpi, e1, hq2]
theorem t11n (l : List Jb) (hl : l.length ≤ 1000000) (g : Int) (ps : List Int) (t : List UInt8) (T : IC) (X : AV × List AO)
    (hX : ∀ Z, run tbl RA [] T [(73, .bool false), (0, jl l), (2, il ps), (3, .str t), (1, .int .i64 g), (17, .bptr 1 0)] (.row 42 7 0 [] :: .box 3 1 (.int .i64 (num l : Nat)) :: Z) = some X) :
    ∀ (k n : Nat) (Z : List AO), 1 ≤ n → n + k = num l → run tbl RA [.blk 4, .seq T] (.loop [0, 2, 3, 1, 17] f11b25) [(0, jl l), (2, il ps), (3, .str t), (1, .int .i64 g), (17, .bptr 1 0)] (.row 42 7 0 [] :: .box 3 1 (.int .i64 n) :: Z) = some X
  | 0, n, Z, h1, h => by
    obtain rfl : n = num l := by omega
    obtain ⟨Z', e⟩ := v36 [.row 42 7 0 []] Z (num l : Nat) l hl
    rw [num_free l] at e
    simp at e
    rw [run_loopD _ _ f11b25_eq]
    simp [e, hX]
  | k + 1, n, Z, h1, h => by
    obtain ⟨Z', e⟩ := v36 [.row 42 7 0 []] Z (n : Nat) l hl
    have hu := nxt_used l (l.length + 1) 1 n h1 (by unfold num at h; omega)
    have ih := t11n l hl g ps t T X hX k (n + 1) Z' (by omega) (by omega)
    rw [Int.natCast_succ] at ih
    have hb := nxt_le l (l.length + 1) 1
    have ws := wrapS n (by unfold num at h; omega)
    simp [hu] at e
    rw [run_loopD _ _ f11b25_eq]
    simp [e, ws, ih]
theorem rsv_at (t T s g : Nat) (es : List AV) : ∀ (A : List AO), rsvIdx t (A ++ [.rsv t, .row T s g es]) = some A.length
  | [] => by simp [rsvIdx]
  | a :: A => by simp [rsvIdx, rsv_at t T s g es A]
theorem t11s (l : List Jb) (hl : l.length ≤ 1000000) (hb : ∀ j ∈ l, BJ j) (g : Int) (ps : List Int) (hp : ps.length ≤ 1000000) (t : List UInt8) (Z : List AO) :
    ∀ (k i : Nat), i + 1 + k = ps.length → run tbl RA [.blk 6, .seq (f11r32.seq .ret)] (.loop [84, 83, 17, 0, 18] f11b31) [(84, .int .i64 (i + 1 : Nat)), (83, .int .i64 ps.length), (17, .bptr 1 0), (0, jl l), (18, .bptr (Z.length + 2) 0)]
      (.row 42 7 0 [] :: .box 3 1 (.int .i64 (num l : Nat)) :: (Z ++ [.box 42 7 (.agg [.int .i64 (num l : Nat), .int .i64 g, .int .i64 1, .ref (Z.length + 3) 0 0 ps.length, .ref (Z.length + 4) i 0 (i + 1), .str t, .bool true]), .row 3 1 0 (im ps), .row 3 1 i (im (List.replicate (i + 1) (-1)))])) = some (okA l g ps t)
  | 0, i, h => by
    have e := c39 l hl hb
    have hr : List.replicate ps.length (-1 : Int) = List.replicate (i + 1) (-1) := by rw [← h]
    rw [run_loopD _ _ f11b31_eq]
    simp [show i + 1 = ps.length by omega, e, okA, newJ, show l.length ≤ 1073741823 by omega, encJ]
    rw [List.take_of_length_le (by simp)]
    simp
  | k + 1, i, h => by
    have hi : i + 1 < ps.length := by omega
    have ih := t11s l hl hb g ps hp t Z k (i + 1) (by omega)
    have ws := wrapS (i + 1) (by omega)
    simp only [Int.natCast_add, Int.natCast_succ, Int.cast_ofNat_Int, List.map_replicate] at ih ws
    rw [List.replicate_succ' (n := i + 1)] at ih
    rw [run_loopD _ _ f11b31_eq]
    simp [show (i : Int) + 1 < ps.length by omega, show i ≤ 1073741822 by omega, ws, ih]
abbrev T11s : IC := .seq f11r26 (.seq (.seq f11r27 (.block 6 (.loop [84, 83, 17, 0, 18] f11b31))) (.seq f11r32 .ret))
abbrev T11n : IC := .seq (.seq f11r20 (.cond (.t 69) (.seq f11r21 .ret) .skip)) (.seq f11r22 (.seq (.block 4 (.loop [0, 2, 3, 1, 17] f11b25)) T11s))
abbrev T11b : IC := .seq (.seq f11r12 (.block 2 (.loop [44, 3, 1, 43, 2, 45, 0] f11b19))) T11n
theorem t11S (l : List Jb) (hl : l.length ≤ 1000000) (hb : ∀ j ∈ l, BJ j) (g : Int) (ps : List Int) (hp : ps.length ≤ 1000000) (h0 : ps ≠ []) (t : List UInt8) (Z : List AO) :
    run tbl RA [] T11s [(73, .bool false), (0, jl l), (2, il ps), (3, .str t), (1, .int .i64 g), (17, .bptr 1 0)] (.row 42 7 0 [] :: .box 3 1 (.int .i64 (num l : Nat)) :: Z) = some (okA l g ps t) := by
  have hlen : 0 < ps.length := List.length_pos_iff.2 h0
  have e := c38 hp
  have ih := t11s l hl hb g ps hp t Z (ps.length - 1) 0 (by omega)
  have hrs := rsv_at 18 3 1 0 (im ps) Z
  simp at ih
  simp [e, hrs]
  rw [run_loopD _ _ f11b31_eq, show Z.length + 1 + 1 = Z.length + 2 from rfl]
  simp [hlen, ih]
theorem c11 (l : List Jb) (hl : l.length ≤ 1000000) (hb : ∀ j ∈ l, BJ j) (hm : ∀ p, memO p l 0 = none ↔ memB p l = false) (g : Int) (ps : List Int) (hp : ps.length ≤ 1000000) (t : List UInt8) :
    callW tbl 11 [jl l, .int .i64 g, il ps, .str t] = some (outA l g ps t) := by
  rw [call_run tbl (f := 11) (fn := f11) rfl _ rfl]
  have e1 := c33 g
  by_cases h1 : 32 ≤ l.length
  · simp [f11, f11body, outA, addE, h1, show (32 : Int) ≤ l.length by omega]
  have h1' : ¬ (32 : Int) ≤ l.length := by omega
  cases hg : numB g
  · rw [hg] at e1
    simp [f11, f11body, outA, addE, h1, h1', e1, hg]
  rw [hg] at e1
  by_cases h0 : ps = []
  · subst h0
    simp [f11, f11body, outA, addE, h1, h1', e1, hg]
  have hlen : ¬ ps.length = 0 := fun h => h0 (List.length_eq_zero_iff.1 h)
  have hS := t11S l hl hb g ps hp h0 t
  have hn := t11n l hl g ps t T11s (okA l g ps t) hS (num l - 1) 1 [] (by omega) (by have := nxt_ge l (l.length + 1) 1; unfold num; omega)
  have hx : run tbl RA [] T11n [(46, .bool false), (2, il ps), (43, il ps), (1, .int .i64 g), (3, .str t), (44, .int .i64 ps.length), (45, .int .i64 ps.length), (0, jl l)] [.row 42 7 0 []] = some (if 4096 < t.length then errA l 3 else okA l g ps t) := by
    simp at hn
    by_cases ht : 4096 < t.length
    · simp [ht, show (4096 : Int) < t.length by omega]
    · simp [ht, show ¬ (4096 : Int) < t.length by omega, hn]
  have hbb := t11b l hl hb hm g ps hp t T11n _ hx ps.length 0 (by omega)
  have hy : run tbl RA [] T11b [(35, .bool false), (32, il ps), (3, .str t), (1, .int .i64 g), (2, il ps), (33, .int .i64 ps.length), (34, .int .i64 ps.length), (0, jl l)] [.row 42 7 0 []] = some (if dupR l ps ps.length 0 = true then errA l 9 else if 4096 < t.length then errA l 3 else okA l g ps t) := by
    simp only [Int.cast_ofNat_Int, Int.natCast_zero] at hbb
    simp [hbb]
  have ha := t11a l g ps hp t T11b _ hy ps.length 0 (by omega)
  have hr : (if (ps.drop 0).all numB = false then errA l 1 else if dupR l ps ps.length 0 = true then errA l 9 else if 4096 < t.length then errA l 3 else okA l g ps t) = outA l g ps t := by
    rw [List.drop_zero]
    simp only [outA, addE, if_neg h1, hg, h0, Bool.true_eq_false, or_self, if_false]
    by_cases q1 : ps.all numB = false
    · simp only [if_pos q1]; rfl
    · simp only [if_neg q1]
      by_cases q2 : dupR l ps ps.length 0 = true
      · simp only [if_pos q2]; rfl
      · simp only [if_neg q2]
        by_cases q3 : 4096 < t.length
        · simp only [if_pos q3]; rfl
        · simp only [if_neg q3]; rfl
  rw [hr] at ha
  simp only [Int.cast_ofNat_Int, Int.natCast_zero] at ha
  simp [f11, f11body, h1', e1, hlen, ha]
/- the reference -/
theorem t12a (l : List Jb) (g : Int) (ps : List Int) (hp : ps.length ≤ 1000000) (t : List UInt8) (T : IC) (X : AV × List AO) (hX : run tbl RA [] T [(32, .bool false), (2, il ps), (3, .str t), (1, .int .i64 g), (11, .int .i64 ps.length), (0, jl l)] [.row 42 7 0 []] = some X) :
    ∀ (k i : Nat), i + k = ps.length → run tbl RA [.blk 0, .seq T] (.loop [1, 3, 2, 11, 0] f12b10) [(1, .int .i64 g), (3, .str t), (2, il ps), (11, .int .i64 i), (0, jl l)] [.row 42 7 0 []] = some (if (ps.drop i).all numB = false then errA l 1 else X)
  | 0, i, h => by
    obtain rfl : i = ps.length := by omega
    rw [run_loopD _ _ f12b10_eq]
    simp [hX]
  | k + 1, i, h => by
    have hi : i < ps.length := by omega
    have ih := t12a l g ps hp t T X hX k (i + 1) (by omega)
    rw [Int.natCast_succ] at ih
    have ws := wrapS i (by omega)
    have e1 := c40 ps[i]
    rw [run_loopD _ _ f12b10_eq, drop_step hi]
    cases hn : numB ps[i]
    · rw [hn] at e1
      simp [hi, e1, hn, -List.getElem_cons_drop, -List.map_drop]
    · rw [hn] at e1
      simp [hi, e1, hn, ws, ih, -List.getElem_cons_drop, -List.map_drop]
theorem t12b (l : List Jb) (hl : l.length ≤ 1000000) (hb : ∀ j ∈ l, BJ j) (g : Int) (ps : List Int) (hp : ps.length ≤ 1000000) (t : List UInt8) (T : IC) (X : AV × List AO) (hX : run tbl RA [] T [(45, .bool false), (2, il ps), (1, .int .i64 g), (3, .str t), (13, .int .i64 ps.length), (12, .ref 1 ps.length 0 ps.length), (0, jl l)] [.row 42 7 0 [], .row 3 1 ps.length (List.replicate ps.length (.int .i64 (-1)))] = some X) :
    ∀ (k i : Nat), i + k = ps.length → run tbl RA [.blk 2, .seq T] (.loop [3, 1, 2, 13, 12, 0] f12b18) [(3, .str t), (1, .int .i64 g), (2, il ps), (13, .int .i64 i), (12, .ref 1 i 0 i), (0, jl l)] [.row 42 7 0 [], .row 3 1 i (List.replicate i (.int .i64 (-1)))] = some (if dupR l ps k i = true then errA l 9 else X)
  | 0, i, h => by
    obtain rfl : i = ps.length := by omega
    rw [run_loopD _ _ f12b18_eq]
    simp [hX, dupR]
  | k + 1, i, h => by
    have hi : i < ps.length := by omega
    have hg : ps[i]? = some ps[i] := List.getElem?_eq_getElem hi
    have ih := t12b l hl hb g ps hp t T X hX k (i + 1) (by omega)
    rw [Int.natCast_succ, List.replicate_succ' (n := i)] at ih
    have ws := wrapS i (by omega)
    have hD : dupR l ps (k + 1) i = (memB ps[i] l || decide (ps[i] ∈ ps.take i) || dupR l ps k (i + 1)) := by simp [dupR, hg]
    rw [hD]
    generalize hpi : ps[i] = p
    have e1 := c42 p l hl hb
    have e2 := c41 p (ps.take i) (by simp; omega)
    have hs : (im ps).take i = im (ps.take i) := by simp
    rw [run_loopD _ _ f12b18_eq]
    by_cases ht : p ∈ ps.take i
    · simp [ht] at e2
      simp [hi, hpi, e1, e2, ht, show i ≤ ps.length by omega, hs, -List.map_take]
    · simp [ht] at e2
      cases hq : memB p l
      · rw [hq] at e1
        simp [hi, hpi, e1, e2, ht, hq, ws, ih, show i ≤ ps.length by omega, show i ≤ 1073741823 by omega, hs, -List.map_take]
      · rw [hq] at e1
        simp [hi, hpi, e1, e2, ht, hq, show i ≤ ps.length by omega, hs, -List.map_take]
theorem t12n (l : List Jb) (hl : l.length ≤ 1000000) (g : Int) (ps : List Int) (t : List UInt8) (A : List AO) (T : IC) (X : AV × List AO) (r : AV)
    (hX : run tbl RA [] T [(75, .bool false), (14, .int .i64 (num l : Nat)), (0, jl l), (3, .str t), (12, r), (2, il ps), (1, .int .i64 g)] A = some X) :
    ∀ (k n : Nat), 1 ≤ n → n + k = num l → run tbl RA [.blk 4, .seq T] (.loop [14, 0, 3, 12, 2, 1] f12b24) [(14, .int .i64 n), (0, jl l), (3, .str t), (12, r), (2, il ps), (1, .int .i64 g)] A = some X
  | 0, n, h1, h => by
    obtain rfl : n = num l := by omega
    have e := c43 (num l : Nat) l hl
    rw [num_free l] at e
    simp [oi] at e
    rw [run_loopD _ _ f12b24_eq]
    simp [e, hX]
  | k + 1, n, h1, h => by
    have e := c43 (n : Nat) l hl
    have hu := nxt_used l (l.length + 1) 1 n h1 (by unfold num at h; omega)
    have ih := t12n l hl g ps t A T X r hX k (n + 1) (by omega) (by omega)
    rw [Int.natCast_succ] at ih
    have hb := nxt_le l (l.length + 1) 1
    have ws := wrapS n (by unfold num at h; omega)
    rw [run_loopD _ _ f12b24_eq]
    cases hq : nmN n l 0 with
    | none => exact absurd hq hu
    | some i =>
      rw [hq] at e
      simp [oi] at e
      simp [e, ws, ih]
abbrev T12s : IC := .seq f12r25 (.seq f12r26 .ret)
abbrev T12n : IC := .seq (.seq f12r19 (.cond (.t 70) (.seq f12r20 .ret) .skip)) (.seq f12r21 (.seq (.block 4 (.loop [14, 0, 3, 12, 2, 1] f12b24)) T12s))
abbrev T12b : IC := .seq f12r11 (.seq (.seq f12r12 (.block 2 (.loop [3, 1, 2, 13, 12, 0] f12b18))) T12n)
theorem t12S (l : List Jb) (hl : l.length ≤ 1000000) (g : Int) (ps : List Int) (t : List UInt8) :
    run tbl RA [] T12s [(75, .bool false), (14, .int .i64 (num l : Nat)), (0, jl l), (3, .str t), (12, .ref 1 ps.length 0 ps.length), (2, il ps), (1, .int .i64 g)] [.row 42 7 0 [], .row 3 1 ps.length (List.replicate ps.length (.int .i64 (-1)))] = some (okA l g ps t) := by
  have e := c44 l hl
  simp [e, okA, newJ, show l.length ≤ 1073741823 by omega, encJ]
  rw [List.take_of_length_le (by simp)]
  simp
theorem c12 (l : List Jb) (hl : l.length ≤ 1000000) (hb : ∀ j ∈ l, BJ j) (g : Int) (ps : List Int) (hp : ps.length ≤ 1000000) (t : List UInt8) :
    callW tbl 12 [jl l, .int .i64 g, il ps, .str t] = some (outA l g ps t) := by
  rw [call_run tbl (f := 12) (fn := f12) rfl _ rfl]
  have e1 := c40 g
  by_cases h1 : 32 ≤ l.length
  · simp [f12, f12body, outA, addE, h1, show (32 : Int) ≤ l.length by omega]
  have h1' : ¬ (32 : Int) ≤ l.length := by omega
  cases hg : numB g
  · rw [hg] at e1
    simp [f12, f12body, outA, addE, h1, h1', e1, hg]
  rw [hg] at e1
  by_cases h0 : ps = []
  · subst h0
    simp [f12, f12body, outA, addE, h1, h1', e1, hg]
  have hlen : ¬ ps.length = 0 := fun h => h0 (List.length_eq_zero_iff.1 h)
  have hS := t12S l hl g ps t
  have hn := t12n l hl g ps t _ T12s (okA l g ps t) _ hS (num l - 1) 1 (by omega) (by have := nxt_ge l (l.length + 1) 1; unfold num; omega)
  have hx : run tbl RA [] T12n [(45, .bool false), (2, il ps), (1, .int .i64 g), (3, .str t), (13, .int .i64 ps.length), (12, .ref 1 ps.length 0 ps.length), (0, jl l)] [.row 42 7 0 [], .row 3 1 ps.length (List.replicate ps.length (.int .i64 (-1)))] = some (if 4096 < t.length then errA l 3 else okA l g ps t) := by
    simp at hn
    by_cases ht : 4096 < t.length
    · simp [ht, show (4096 : Int) < t.length by omega]
    · simp [ht, show ¬ (4096 : Int) < t.length by omega, hn]
  have hbb := t12b l hl hb g ps hp t T12n _ hx ps.length 0 (by omega)
  have hy : run tbl RA [] T12b [(32, .bool false), (2, il ps), (3, .str t), (1, .int .i64 g), (11, .int .i64 ps.length), (0, jl l)] [.row 42 7 0 []] = some (if dupR l ps ps.length 0 = true then errA l 9 else if 4096 < t.length then errA l 3 else okA l g ps t) := by
    simp only [Int.cast_ofNat_Int, Int.natCast_zero, List.replicate_zero] at hbb
    simp [hbb]
  have ha := t12a l g ps hp t T12b _ hy ps.length 0 (by omega)
  have hr : (if (ps.drop 0).all numB = false then errA l 1 else if dupR l ps ps.length 0 = true then errA l 9 else if 4096 < t.length then errA l 3 else okA l g ps t) = outA l g ps t := by
    rw [List.drop_zero]
    simp only [outA, addE, if_neg h1, hg, h0, Bool.true_eq_false, or_self, if_false]
    by_cases q1 : ps.all numB = false
    · simp only [if_pos q1]; rfl
    · simp only [if_neg q1]
      by_cases q2 : dupR l ps ps.length 0 = true
      · simp only [if_pos q2]; rfl
      · simp only [if_neg q2]
        by_cases q3 : 4096 < t.length
        · simp only [if_pos q3]; rfl
        · simp only [if_neg q3]; rfl
  rw [hr] at ha
  simp only [Int.cast_ofNat_Int, Int.natCast_zero] at ha
  simp [f12, f12body, h1', e1, hlen, ha]
/- the law -/
theorem c3 (l : List Jb) (g : Int) (ps : List Int) (t : List UInt8) : callW tbl 3 [jl l, .int .i64 g, il ps, .str t] = some (.bool true, []) := by
  rw [call_run tbl (f := 3) (fn := f3) rfl _ rfl]
  have e9 := c9 l
  cases hs : smL l 40 0 0
  · rw [hs] at e9
    simp at e9
    simp [f3, f3body, e9, c10]
  by_cases hv : vld l = 0
  · have ho := (ok_iff l).1 hv
    obtain ⟨h1, h2⟩ := small_bj hs
    rw [hs] at e9
    simp [hv] at e9
    by_cases hp : 100 < ps.length
    · simp [f3, f3body, e9, c10, show (100 : Int) < ps.length by omega]
    by_cases ht : 5000 < t.length
    · simp [f3, f3body, e9, c10, show ¬ (100 : Int) < ps.length by omega, show (5000 : Int) < t.length by omega]
    have hm : ∀ p, memO p l 0 = none ↔ memB p l = false := fun p => memO_none (fun j hj => (ho.good hj).ls)
    have e11 := c11 l h1 h2 hm g ps (by omega) t
    have e12 := c12 l h1 h2 g ps (by omega) t
    by_cases hE : addE l g ps t = 0
    · have hR : outA l g ps t = okA l g ps t := by unfold outA; rw [if_pos hE]
      rw [hR] at e11 e12
      have hl32 : l.length < 32 := by
        unfold addE at hE
        by_cases q : 32 ≤ l.length
        · rw [if_pos q] at hE; cases hE
        · omega
      have e13 := c13 (l ++ [newJ l g ps t]) (by simp; omega) (by
        intro j hj
        rcases List.mem_append.1 hj with h | h
        · exact h2 j h
        · rw [List.mem_singleton.1 h]
          exact ⟨by simp only [newJ]; omega, by simp only [newJ, List.length_replicate]; omega⟩)
      simp only [okA] at e11 e12
      have htk : List.take (l.length + 1) (l.map encJ ++ [encJ (newJ l g ps t)]) = l.map encJ ++ [encJ (newJ l g ps t)] := List.take_of_length_le (by simp)
      simp only [jl, List.map_append, List.map_cons, List.map_nil] at e13
      simp [f3, f3body, e9, c10, show ¬ (100 : Int) < ps.length by omega, show ¬ (5000 : Int) < t.length by omega, e11, e12, htk, e13]
    · have hR : outA l g ps t = errA l (addE l g ps t) := by unfold outA; rw [if_neg hE]
      rw [hR] at e11 e12
      have e13 := c13 l h1 h2
      simp [f3, f3body, e9, c10, show ¬ (100 : Int) < ps.length by omega, show ¬ (5000 : Int) < t.length by omega, e11, e12, e13]
  · rw [hs] at e9
    simp [hv] at e9
    simp [f3, f3body, e9, c10]
end Go.Proofs.YtpphfbfmoipoaaaDoor
