/- FdtabChanges: what Put, Drop and Exec give, on both sides; the law's function returns true. No condition. -/
import Derived.Test.YtiogndooaihgkaaPlain
namespace Go.Proofs.Ytiogndooaihgkaa
open Go.PI
set_option maxRecDepth 100000
set_option maxHeartbeats 8000000
set_option linter.unusedSimpArgs false
@[simp] theorem take_len_map' {α β : Type} (l : List α) (f : α → β) : (l.map f).take l.length = l.map f := List.take_of_length_le (by simp)
abbrev outP (r : List Fd) (e : Int) : Option (AV × List AO) := some (.tup [.ref 0 0 0 r.length, .int .i64 e], [.row 26 3 0 (r.map encF)])
abbrev outN (l : List Fd) (e : Int) : Option (AV × List AO) := some (.tup [.sl 3 (l.map encF), .int .i64 e], [])
/- Same of a table and itself -/
theorem t30 (l : List Fd) (hl : l.length ≤ 1000000) : ∀ (k i : Nat), i + k = l.length → run tbl (.cl [.tmp 4]) [.blk 0, .seq (f30r9.seq .ret)] (.loop [0, 1, 5] f30b8) [(0, .sl 3 (l.map encF)), (1, .sl 3 (l.map encF)), (5, .int .i64 i)] [] = some (.bool true, [])
  | 0, i, h => by
    rw [run_loopD _ _ f30b8_eq]
    simp [show ¬ i < l.length by omega]
  | k + 1, i, h => by
    have hi : i < l.length := by omega
    have ih := t30 l hl k (i + 1) (by omega)
    rw [Int.natCast_succ] at ih
    rw [run_loopD _ _ f30b8_eq]
    simp [hi, wrapS i (by omega), ih]
theorem c30 (l : List Fd) (hl : l.length ≤ 1000000) : callW tbl 30 [.sl 3 (l.map encF), .sl 3 (l.map encF)] = some (.bool true, []) := by
  rw [call_run tbl (f := 30) (fn := f30) rfl _ rfl]
  have h := t30 l hl l.length 0 (by omega)
  simp at h
  simp [f30, f30body, h]
theorem t31 (l : List Int) (hl : l.length ≤ 1000000) : ∀ (k i : Nat), i + k = l.length → run tbl (.cl [.tmp 4]) [.blk 0, .seq (f31r9.seq .ret)] (.loop [0, 1, 5] f31b8) [(0, .sl 1 (l.map (.int .i64))), (1, .sl 1 (l.map (.int .i64))), (5, .int .i64 i)] [] = some (.bool true, [])
  | 0, i, h => by
    rw [run_loopD _ _ f31b8_eq]
    simp [show ¬ i < l.length by omega]
  | k + 1, i, h => by
    have hi : i < l.length := by omega
    have ih := t31 l hl k (i + 1) (by omega)
    rw [Int.natCast_succ] at ih
    rw [run_loopD _ _ f31b8_eq]
    simp [hi, wrapS i (by omega), ih]
theorem c31 (l : List Int) (hl : l.length ≤ 1000000) : callW tbl 31 [.sl 1 (l.map (.int .i64)), .sl 1 (l.map (.int .i64))] = some (.bool true, []) := by
  rw [call_run tbl (f := 31) (fn := f31) rfl _ rfl]
  have h := t31 l hl l.length 0 (by omega)
  simp at h
  simp [f31, f31body, h]
/- Put -/
abbrev tail24 : IC := f24r9.seq ((f24r10.seq (.cond (.t 56) f24r11 .skip)).seq (f24r12.seq .ret))
theorem t24 (l : List Fd) (hl : l.length ≤ 60) (x : Fd) (h1 : AO) : ∀ (k i : Nat), i + k = l.length → run tbl (.cl [.tmp 4, .tmp 5]) [.blk 0, .seq tail24] (.loop [8, 0, 3, 7] f24b8) [(8, .int .i64 i), (0, .sl 3 (l.map encF)), (3, .bptr 0 0), (7, .ref 2 0 0 0)] [.box 26 3 (encF x), h1, .row 26 3 0 []] = outP (l.take i ++ putL (l.drop i) x) 0
  | 0, i, h => by
    obtain rfl : i = l.length := by omega
    rw [run_loopD _ _ f24b8_eq]
    simp [putL, show l.length ≤ 1073741824 by omega, show l.length ≤ 1073741823 by omega]
    exact List.take_of_length_le (by simp)
  | k + 1, i, h => by
    have hi : i < l.length := by omega
    have ih := t24 l hl x h1 k (i + 1) (by omega)
    rw [Int.natCast_succ] at ih
    rw [run_loopD _ _ f24b8_eq, drop_step hi, putL]
    by_cases h1 : l[i].num < x.num
    · rw [List.take_succ_eq_append_getElem hi] at ih
      rw [if_pos h1]
      simp [-List.getElem_cons_drop, -List.take_append_getElem] at ih
      simp [-List.getElem_cons_drop, -List.take_append_getElem, hi, h1, wrapS i (by omega), ih]
    · by_cases h2 : l[i].num = x.num
      · rw [if_neg h1, if_pos h2]
        simp [-List.getElem_cons_drop, -List.take_append_getElem, hi, h1, h2, wrapS i (by omega), show i ≤ l.length by omega, Nat.min_eq_left (Nat.le_of_lt hi), show i ≤ 1073741824 by omega, show i ≤ 1073741823 by omega, show (0 : Int) ≤ (i : Int) + 1 by omega, show i + 1 ≤ l.length by omega]
        have e2 : List.take (l.length - (i + 1)) (List.drop (i + 1) (l.map encF)) = List.drop (i + 1) (l.map encF) := List.take_of_length_le (by simp)
        refine ⟨by omega, by omega, ?_⟩
        rw [List.take_of_length_le (by simp; omega), e2]
      · rw [if_neg h1, if_neg h2]
        simp [-List.getElem_cons_drop, -List.take_append_getElem, hi, h1, h2, wrapS i (by omega), show i ≤ l.length by omega, Nat.min_eq_left (Nat.le_of_lt hi), show i ≤ 1073741824 by omega, show i ≤ 1073741823 by omega]
        have e : List.drop i (l.map encF) = encF l[i] :: List.drop (i + 1) (l.map encF) := by rw [← List.map_drop, drop_step hi, List.map_cons, List.map_drop]
        have e2 : List.take (l.length - i) (List.drop i (l.map encF)) = List.drop i (l.map encF) := List.take_of_length_le (by simp)
        refine ⟨by omega, by omega, ?_⟩
        rw [List.take_of_length_le (by simp; omega), e2, e]
theorem c24 (l : List Fd) (hl : l.length ≤ 60) (x : Fd) : callW tbl 24 [.sl 3 (l.map encF), encF x] = if chk x = 0 then outP (putL l x) 0 else outN l (chk x) := by
  rw [call_run tbl (f := 24) (fn := f24) rfl _ rfl]
  have h := fun h1 => t24 l hl x h1 l.length 0 (by omega)
  have hc := c32 x
  simp at h
  by_cases hx : chk x = 0
  · rw [if_pos hx]
    rw [hx] at hc
    simp [f24, f24body, hc, h, wrapS l.length (by omega), show (0 : Int) ≤ (l.length : Int) + 1 by omega, show ((l.length : Int) + 1).toNat = l.length + 1 by omega, show l.length + 1 ≤ 1073741824 by omega, show l.length ≤ 1073741823 by omega]
  · rw [if_neg hx]
    simp [f24, f24body, hc, hx]
/- the reference's Put -/
theorem t25 (l : List Fd) (hl : l.length ≤ 60) (x : Fd) (h1 : AO) : ∀ (k i g : Nat) (rest : List AO), i + k = 32 → run tbl (.cl [.tmp 4, .tmp 5]) [.blk 0, .seq (f25r14.seq .ret)] (.loop [7, 8, 0, 3] f25b13) [(7, .ref 2 g 0 (prs l x i).length), (8, .int .i64 i), (0, .sl 3 (l.map encF)), (3, .bptr 0 0)] (.box 26 3 (encF x) :: h1 :: .row 26 3 g ((prs l x i).map encF) :: rest) = outP (prs l x 32) 0
  | 0, i, g, rest, h => by
    obtain rfl : i = 32 := by omega
    rw [run_loopD _ _ f25b13_eq]
    simp
  | k + 1, i, g, rest, h => by
    have hp := prs_length l x i
    have hc := c12 l (by omega) i
    rw [run_loopD _ _ f25b13_eq]
    by_cases e : (i : Int) = x.num
    · have ih := fun r => t25 l hl x h1 k (i + 1) (g + 1) r (by omega)
      rw [prs, if_pos e] at ih
      rw [Int.natCast_succ] at ih
      simp at ih
      simp [show (i : Int) < 32 by omega, hc, eq_true e, wrapS i (by omega), show (prs l x i).length ≤ 1073741823 by omega, ih]
    · by_cases hg : (getR l i).2 = true
      · have ih := fun r => t25 l hl x h1 k (i + 1) (g + 1) r (by omega)
        rw [prs, if_neg e, if_pos hg] at ih
        rw [Int.natCast_succ] at ih
        simp at ih
        simp [show (i : Int) < 32 by omega, hc, e, hg, wrapS i (by omega), show (prs l x i).length ≤ 1073741823 by omega, ih]
      · have ih := fun r => t25 l hl x h1 k (i + 1) g r (by omega)
        rw [prs, if_neg e, if_neg hg] at ih
        rw [Int.natCast_succ] at ih
        simp at ih hg
        simp [show (i : Int) < 32 by omega, hc, e, hg, wrapS i (by omega), ih]
theorem c25 (l : List Fd) (hl : l.length ≤ 60) (x : Fd) : callW tbl 25 [.sl 3 (l.map encF), encF x] = if chk x = 0 then outP (prs l x 32) 0 else outN l (chk x) := by
  rw [call_run tbl (f := 25) (fn := f25) rfl _ rfl]
  have h := fun h1 => t25 l hl x h1 32 0 0 [] (by omega)
  have hc := c33 x
  simp [prs] at h
  by_cases hx : chk x = 0
  · rw [if_pos hx]
    rw [hx] at hc
    simp [f25, f25body, hc, h, prs]
  · rw [if_neg hx]
    simp [f25, f25body, hc, hx]
/- Drop -/
theorem t26 (l : List Fd) (hl : l.length ≤ 61) (y : Fd) (hy : ∀ u ∈ l, u.num = y.num → u = y) (h0 : AO) : ∀ (k i g : Nat) (rest : List AO), i + k = l.length → run tbl (.cl [.tmp 4, .tmp 5]) [.blk 0, .seq (f26r12.seq .ret)] (.loop [8, 25, 24, 23, 6] f26b11) [(8, .ref 2 g 0 (dl l y.num i).length), (25, .int .i64 i), (24, .int .i64 l.length), (23, .sl 3 (l.map encF)), (6, .bptr 1 0)] (h0 :: .box 26 3 (encF y) :: .row 26 3 g ((dl l y.num i).map encF) :: rest) = outP (dl l y.num l.length) 0
  | 0, i, g, rest, h => by
    obtain rfl : i = l.length := by omega
    rw [run_loopD _ _ f26b11_eq]
    simp
  | k + 1, i, g, rest, h => by
    have hi : i < l.length := by omega
    have hd := dl_length l y.num i
    rw [run_loopD _ _ f26b11_eq]
    by_cases e : l[i].num = y.num
    · have ey := hy l[i] (List.getElem_mem hi) e
      have ih := fun r => t26 l hl y hy h0 k (i + 1) g r (by omega)
      rw [dl, at0_eq hi, if_pos e] at ih
      rw [Int.natCast_succ] at ih
      simp [hi, ey, wrapS i (by omega), ih]
    · have ih := fun r => t26 l hl y hy h0 k (i + 1) (g + 1) r (by omega)
      rw [dl, at0_eq hi, if_neg e] at ih
      rw [Int.natCast_succ] at ih
      simp at ih
      simp [hi, e, wrapS i (by omega), show (dl l y.num i).length ≤ 1073741823 by omega, ih]
theorem c26 (l : List Fd) (hl : l.length ≤ 61) (ho : OkT l) (n : Int) : callW tbl 26 [.sl 3 (l.map encF), .int .i64 n] = if (getR l n).2 = true then outP (dl l n l.length) 0 else outN l 15 := by
  rw [call_run tbl (f := 26) (fn := f26) rfl _ rfl]
  have hc := c11 l (by omega) n
  by_cases hg : (getR l n).2 = true
  · have hs := getR_some hg
    have h := fun h1 => t26 l hl (getR l n).1 (fun u hu e => by
      have := getR_mem ho hu
      rw [e, hs.2] at this
      rw [this]) h1 l.length 0 0 [] (by omega)
    rw [hs.2] at h
    rw [if_pos hg]
    simp [dl] at h
    simp [f26, f26body, hc, hg, h, show l.length ≤ 1073741824 by omega]
  · rw [if_neg hg]
    simp at hg
    simp [f26, f26body, hc, hg]
theorem t27 (l : List Fd) (hl : l.length ≤ 61) (n : Int) (h0 h1 : AO) : ∀ (k i g : Nat), i + k = l.length → run tbl (.cl [.tmp 4, .tmp 5]) [.blk 0, .seq (f27r11.seq .ret)] (.loop [8, 9, 1, 0] f27b10) [(8, .ref 2 g 0 (dl l n i).length), (9, .int .i64 i), (1, .int .i64 n), (0, .sl 3 (l.map encF))] [h0, h1, .row 26 3 g ((dl l n i).map encF)] = outP (dl l n l.length) 0
  | 0, i, g, h => by
    obtain rfl : i = l.length := by omega
    rw [run_loopD _ _ f27b10_eq]
    simp
  | k + 1, i, g, h => by
    have hi : i < l.length := by omega
    have hd := dl_length l n i
    rw [run_loopD _ _ f27b10_eq]
    by_cases e : l[i].num = n
    · have ih := t27 l hl n h0 h1 k (i + 1) g (by omega)
      rw [dl, at0_eq hi, if_pos e] at ih
      rw [Int.natCast_succ] at ih
      simp [hi, e, wrapS i (by omega), ih]
    · have ih := t27 l hl n h0 h1 k (i + 1) (g + 1) (by omega)
      rw [dl, at0_eq hi, if_neg e] at ih
      rw [Int.natCast_succ] at ih
      simp at ih
      simp [hi, e, wrapS i (by omega), show (dl l n i).length ≤ 1073741823 by omega, ih]
theorem c27 (l : List Fd) (hl : l.length ≤ 61) (n : Int) : callW tbl 27 [.sl 3 (l.map encF), .int .i64 n] = if (getR l n).2 = true then outP (dl l n l.length) 0 else outN l 15 := by
  rw [call_run tbl (f := 27) (fn := f27) rfl _ rfl]
  have hc := c12 l (by omega) n
  by_cases hg : (getR l n).2 = true
  · have h := fun h0 h1 => t27 l hl n h0 h1 l.length 0 0 (by omega)
    rw [if_pos hg]
    simp [dl] at h
    simp [f27, f27body, hc, hg, h]
  · rw [if_neg hg]
    simp at hg
    simp [f27, f27body, hc, hg]
/- Exec -/
abbrev outE (a : List Fd) (b : List Int) : Option (AV × List AO) := some (.tup [.ref 0 0 0 a.length, .ref 1 0 0 b.length], [.row 26 3 0 (a.map encF), .row 3 1 0 (b.map (.int .i64))])
theorem t28 (l : List Fd) (hl : l.length ≤ 60) (h0 h1 : AO) : ∀ (k i g g' : Nat) (rest : List AO), i + k = l.length → run tbl (.cl [.tmp 2, .tmp 3]) [.blk 0, .seq (f28r11.seq .ret)] (.loop [5, 10, 9, 8, 4] f28b10) [(5, .ref 3 g' 0 (gn l i).length), (10, .int .i64 i), (9, .int .i64 l.length), (8, .sl 3 (l.map encF)), (4, .ref 2 g 0 (kp l i).length)] (h0 :: h1 :: .row 26 3 g ((kp l i).map encF) :: .row 3 1 g' ((gn l i).map (.int .i64)) :: rest) = outE (kp l l.length) (gn l l.length)
  | 0, i, g, g', rest, h => by
    obtain rfl : i = l.length := by omega
    rw [run_loopD _ _ f28b10_eq]
    simp
  | k + 1, i, g, g', rest, h => by
    have hi : i < l.length := by omega
    have hd := kp_length l i
    have hd' := gn_length l i
    rw [run_loopD _ _ f28b10_eq]
    by_cases e : l[i].clo = true
    · have ih := fun r => t28 l hl h0 h1 k (i + 1) g (g' + 1) r (by omega)
      rw [kp, gn, at0_eq hi, if_pos e, if_pos e] at ih
      rw [Int.natCast_succ] at ih
      simp at ih
      simp [hi, e, wrapS i (by omega), show (gn l i).length ≤ 1073741823 by omega, ih]
    · have ih := fun r => t28 l hl h0 h1 k (i + 1) (g + 1) g' r (by omega)
      rw [kp, gn, at0_eq hi, if_neg e, if_neg e] at ih
      rw [Int.natCast_succ] at ih
      simp at ih e
      have ee : encF l[i] = .agg [.int .i64 l[i].num, .int .i64 l[i].desc, .bool false] := by rw [encF, e]
      simp only [ee] at ih
      simp [hi, e, wrapS i (by omega), show (kp l i).length ≤ 1073741823 by omega, ih]
theorem c28 (l : List Fd) (hl : l.length ≤ 60) : callW tbl 28 [.sl 3 (l.map encF)] = outE (kp l l.length) (gn l l.length) := by
  rw [call_run tbl (f := 28) (fn := f28) rfl _ rfl]
  have h := fun h0 h1 => t28 l hl h0 h1 l.length 0 0 0 [] (by omega)
  simp [kp, gn] at h
  simp [f28, f28body, h]
theorem t29 (l : List Fd) (hl : l.length ≤ 60) (h0 h1 : AO) : ∀ (k i g g' : Nat), i + k = l.length → run tbl (.cl [.tmp 2, .tmp 3]) [.blk 0, .seq (f29r10.seq .ret)] (.loop [5, 6, 4, 0] f29b9) [(5, .ref 3 g' 0 (gn l i).length), (6, .int .i64 i), (4, .ref 2 g 0 (kp l i).length), (0, .sl 3 (l.map encF))] [h0, h1, .row 26 3 g ((kp l i).map encF), .row 3 1 g' ((gn l i).map (.int .i64))] = outE (kp l l.length) (gn l l.length)
  | 0, i, g, g', h => by
    obtain rfl : i = l.length := by omega
    rw [run_loopD _ _ f29b9_eq]
    simp
  | k + 1, i, g, g', h => by
    have hi : i < l.length := by omega
    have hd := kp_length l i
    have hd' := gn_length l i
    rw [run_loopD _ _ f29b9_eq]
    by_cases e : l[i].clo = true
    · have ih := t29 l hl h0 h1 k (i + 1) g (g' + 1) (by omega)
      rw [kp, gn, at0_eq hi, if_pos e, if_pos e] at ih
      rw [Int.natCast_succ] at ih
      simp at ih
      simp [hi, e, wrapS i (by omega), show (gn l i).length ≤ 1073741823 by omega, ih]
    · have ih := t29 l hl h0 h1 k (i + 1) (g + 1) g' (by omega)
      rw [kp, gn, at0_eq hi, if_neg e, if_neg e] at ih
      rw [Int.natCast_succ] at ih
      simp at ih e
      have ee : encF l[i] = .agg [.int .i64 l[i].num, .int .i64 l[i].desc, .bool false] := by rw [encF, e]
      simp only [ee] at ih
      simp [hi, e, wrapS i (by omega), show (kp l i).length ≤ 1073741823 by omega, ih]
theorem c29 (l : List Fd) (hl : l.length ≤ 60) : callW tbl 29 [.sl 3 (l.map encF)] = outE (kp l l.length) (gn l l.length) := by
  rw [call_run tbl (f := 29) (fn := f29) rfl _ rfl]
  have h := fun h0 h1 => t29 l hl h0 h1 l.length 0 0 0 (by omega)
  simp [kp, gn] at h
  simp [f29, f29body, h]
theorem c7 (l : List Fd) (x : Fd) : callW tbl 7 [.sl 3 (l.map encF), encF x] = some (.bool true, []) := by
  rw [call_run tbl (f := 7) (fn := f7) rfl _ rfl]
  have h9 := c9 (l.map encF)
  simp at h9
  by_cases hs : l.length ≤ 60
  · have h16 := c16 l (by omega)
    by_cases hv : vf l l.length 0 = 0
    · have ho := ok_of_vf hv
      have h24 := c24 l hs x
      have h25 := c25 l hs x
      have h26 := c26 l (by omega) ho x.num
      have h27 := c27 l (by omega) x.num
      have h28 := c28 l hs
      have h29 := c29 l hs
      have hd := dl_length l x.num l.length
      have hp := putL_length x l
      have hk := kp_length l l.length
      have hg := gn_length l l.length
      have sd := c30 (dl l x.num l.length) (by omega)
      have sp := c30 (putL l x) (by omega)
      have sl := c30 l (by omega)
      have sk := c30 (kp l l.length) (by omega)
      have sg := c31 (gn l l.length) (by omega)
      by_cases hx : chk x = 0
      · rw [if_pos hx] at h24 h25
        rw [prs_eq hx ho] at h25
        by_cases ht : (getR l x.num).2 = true
        · rw [if_pos ht] at h26 h27
          simp [f7, f7body, h9, hs, h16, hv, h24, h25, h26, h27, h28, h29, sd, sp, sk, sg, c10]
        · rw [if_neg ht] at h26 h27
          simp [f7, f7body, h9, hs, h16, hv, h24, h25, h26, h27, h28, h29, sl, sp, sk, sg, c10]
      · rw [if_neg hx] at h24 h25
        by_cases ht : (getR l x.num).2 = true
        · rw [if_pos ht] at h26 h27
          simp [f7, f7body, h9, hs, h16, hv, h24, h25, h26, h27, h28, h29, sd, sl, sk, sg, c10]
        · rw [if_neg ht] at h26 h27
          simp [f7, f7body, h9, hs, h16, hv, h24, h25, h26, h27, h28, h29, sl, sk, sg, c10]
    · simp [f7, f7body, h9, hs, h16, hv, c10]
  · simp [f7, f7body, h9, hs, c10]
end Go.Proofs.Ytiogndooaihgkaa
