/- RedirectKeeps: what Keep gives, on both sides. No condition. -/
import Derived.Test.YtddcoboldcenkaaAsk
namespace Go.Proofs.Ytddcoboldcenkaa
open Go.PI
set_option maxRecDepth 100000
set_option maxHeartbeats 8000000
set_option linter.unusedSimpArgs false
/- Same of a list and itself -/
theorem t10 (l : List Mv) (hl : l.length ≤ 1000000) : ∀ (k i : Nat), i + k = l.length → run tbl (.cl [.tmp 4]) [.blk 0, .seq (f10r10.seq .ret)] (.loop [12, 0, 1, 13] f10b9) [(12, .int .i64 l.length), (0, .sl 6 (l.map encM)), (1, .sl 6 (l.map encM)), (13, .int .i64 i)] [] = some (.bool true, [])
  | 0, i, h => by
    rw [run_loopD _ _ f10b9_eq]
    simp [show ¬ i < l.length by omega]
  | k + 1, i, h => by
    have hi : i < l.length := by omega
    have ih := t10 l hl k (i + 1) (by omega)
    rw [Int.natCast_succ] at ih
    rw [run_loopD _ _ f10b9_eq]
    simp [hi, wrapS i (by omega), ih]
theorem c10 (l : List Mv) (hl : l.length ≤ 1000000) : callW tbl 10 [.sl 6 (l.map encM), .sl 6 (l.map encM)] = some (.bool true, []) := by
  rw [call_run tbl (f := 10) (fn := f10) rfl _ rfl]
  have h := t10 l hl l.length 0 (by omega)
  simp at h
  simp [f10, f10body, h]
theorem c10e : callW tbl 10 [.e0, .sl 6 []] = some (.bool true, []) := callW_of tbl (k := 50) (by kernel_rfl)
/- the reference: is the descriptor of m among the first k moves? -/
theorem t12b (l : List Mv) (hl : l.length ≤ 60) (j : Nat) (hj : j < l.length) (K : List Fr) (v10 v11 v5 v4 : AV) (H : List AO) : ∀ (k i : Nat) (b : Bool), i + k = j → run tbl (.cl [.tmp 2, .tmp 3]) (.blk 2 :: K) (.loop [7, 15, 14, 10, 11, 5, 4, 0, 6] f12b11) [(7, .bool b), (15, .int .i64 i), (14, .int .i64 j), (10, v10), (11, v11), (5, v5), (4, v4), (0, .sl 6 (l.map encM)), (6, .int .i64 j)] H
      = back tbl (.cl [.tmp 2, .tmp 3]) K [(16, .bool false), (7, .bool (b || ((l.drop i).take k).any fun m => m.fd == l[j].fd)), (15, .int .i64 j), (14, .int .i64 j), (10, v10), (11, v11), (5, v5), (4, v4), (0, .sl 6 (l.map encM)), (6, .int .i64 j)] H
  | 0, i, b, h => by
    obtain rfl : i = j := by omega
    rw [run_loopD _ _ f12b11_eq]
    simp
  | k + 1, i, b, h => by
    have hi : i < l.length := by omega
    have ih := fun b => t12b l hl j hj K v10 v11 v5 v4 H k (i + 1) b (by omega)
    rw [Int.natCast_succ] at ih
    rw [run_loopD _ _ f12b11_eq, drop_step hi]
    cases b
    · by_cases e : l[i].fd = l[j].fd <;> simp [-List.getElem_cons_drop, hi, hj, show i < j by omega, wrapS i (by omega), e, ih]
    · simp [-List.getElem_cons_drop, hi, hj, show i < j by omega, wrapS i (by omega), ih]
@[simp] theorem set_concat {α : Type} (l : List α) (a b : α) : (l ++ [a]).set l.length b = l ++ [b] := by
  induction l with
  | nil => rfl
  | cons c l ih => simp [ih]
@[simp] theorem set_app2 {α : Type} (l : List α) (a b c : α) : (l ++ [a, b]).set (l.length + 1) c = l ++ [a, c] := by
  induction l with
  | nil => rfl
  | cons d l ih => simp [ih]
abbrev sv (n : Int) : Mv := ⟨5, n, 10, 0, [], []⟩
abbrev bk (n : Int) : Mv := ⟨6, n, -1, 0, [], []⟩
def fdAt (l : List Mv) (i : Nat) : Int := ((l[i]?).map Mv.fd).getD 0
theorem fdAt_eq {l : List Mv} {i : Nat} (h : i < l.length) : fdAt l i = l[i].fd := by unfold fdAt; rw [List.getElem?_eq_getElem h]; rfl
def known (l : List Mv) (i : Nat) : Bool := (l.take i).any fun m => m.fd == fdAt l i
/-- the descriptors of the first i moves, each once -/
def ds (l : List Mv) : Nat → List Int
  | 0 => []
  | i + 1 => if known l i then ds l i else ds l i ++ [fdAt l i]
theorem ds_length (l : List Mv) : ∀ i, (ds l i).length ≤ i
  | 0 => Nat.le_refl _
  | i + 1 => by
    have := ds_length l i
    rw [ds]
    split
    · omega
    · simp; omega
abbrev outK (s b : List Mv) : Option (AV × List AO) := some (.tup [.ref 0 0 0 s.length, .ref 1 0 0 b.length], [.row 37 6 0 (s.map encM), .row 37 6 0 (b.map encM)])
theorem t12 (l : List Mv) (hl : l.length ≤ 60) (h0 h1 : AO) : ∀ (k i g g' : Nat) (X : List AO), i + k = l.length → run tbl (.cl [.tmp 2, .tmp 3]) [.blk 0, .seq (f12r17.seq .ret)] (.loop [10, 11, 5, 4, 0] f12b16) [(10, .int .i64 l.length), (11, .int .i64 i), (5, .ref (X.length + 3) g' 0 (ds l i).length), (4, .ref 2 g 0 (ds l i).length), (0, .sl 6 (l.map encM))] (h0 :: h1 :: .row 37 6 g ((ds l i).map fun n => encM (sv n)) :: (X ++ [.row 37 6 g' ((ds l i).reverse.map fun n => encM (bk n))])) = outK ((ds l l.length).map sv) ((ds l l.length).reverse.map bk)
  | 0, i, g, g', X, h => by
    obtain rfl : i = l.length := by omega
    rw [run_loopD _ _ f12b16_eq]
    simp
    rw [List.take_of_length_le (by simp)]
    rfl
  | k + 1, i, g, g', X, h => by
    have hi : i < l.length := by omega
    have hd := ds_length l i
    have hb := t12b l hl i hi
    rw [run_loopD _ _ f12b16_eq]
    have hk : ((l.drop 0).take i).any (fun m => m.fd == l[i].fd) = known l i := by simp [known, fdAt_eq hi]
    cases hkn : known l i
    · have ih := t12 l hl h0 h1 k (i + 1) (g + 1) 1 (X ++ [.row 37 6 g' ((ds l i).reverse.map fun n => encM (bk n))]) (by omega)
      rw [ds, hkn, if_neg (by simp), fdAt_eq hi] at ih
      rw [Int.natCast_succ] at ih
      have hb := fun K a b c d H => hb K a b c d H i 0 false (by omega)
      rw [hk, hkn] at hb
      simp at hb ih
      simp [hi, hb, wrapS i (by omega), show (ds l i).length ≤ 1073741823 by omega, show 1 + (ds l i).length ≤ 1073741824 by omega]
      rw [Nat.add_comm 1, List.take_of_length_le (by simp)]
      exact ih
    · have ih := t12 l hl h0 h1 k (i + 1) g g' X (by omega)
      rw [ds, if_pos hkn] at ih
      rw [Int.natCast_succ] at ih
      have hb := fun K a b c d H => hb K a b c d H i 0 false (by omega)
      rw [hk, hkn] at hb
      simp at hb ih
      simp [hi, hb, wrapS i (by omega), ih]
theorem c12 (l : List Mv) (hl : l.length ≤ 60) : callW tbl 12 [.sl 6 (l.map encM)] = outK ((ds l l.length).map sv) ((ds l l.length).reverse.map bk) := by
  rw [call_run tbl (f := 12) (fn := f12) rfl _ rfl]
  have h := t12 l hl (.row 37 6 0 []) (.row 37 6 0 []) l.length 0 0 0 [] (by omega)
  simp [ds] at h
  simp [f12, f12body, h]
/- the closure -/
theorem cv18 (n m : Int) (B : List AO) (s b : List Mv) (g g' : Nat) (hs : s.length ≤ 1000) (hb : b.length ≤ 1000) : callV tbl 18 [.int .i64 n, .int .i64 m, .bptr B.length 0, .bptr (B.length + 1) 0] (B ++ [.box 25 1 (.ref (B.length + 2) g 0 s.length), .box 25 1 (.ref (B.length + 3) g' 0 b.length), .row 37 6 g (s.map encM), .row 37 6 g' (b.map encM)])
    = some (.tup [], B ++ [.box 25 1 (.ref (B.length + 2) (g + 1) 0 (s.length + 1)), .box 25 1 (.ref (B.length + 3) (g' + 1) 0 (b.length + 1)), .row 37 6 (g + 1) ((s ++ [sv n]).map encM), .row 37 6 (g' + 1) ((b ++ [bk m]).map encM)]) := by
  rw [callV_run tbl (f := 18) (fn := f18) rfl _ _ rfl]
  simp [f18, f18body, show s.length ≤ 1073741823 by omega, show b.length ≤ 1073741823 by omega]
theorem cv18e (n m : Int) (B : List AO) : callV tbl 18 [.int .i64 n, .int .i64 m, .bptr B.length 0, .bptr (B.length + 1) 0] (B ++ [.box 25 1 .e0, .box 25 1 .e0])
    = some (.tup [], B ++ [.box 25 1 (.ref (B.length + 2) 0 0 1), .box 25 1 (.ref (B.length + 3) 0 0 1), .row 37 6 0 [encM (sv n)], .row 37 6 0 [encM (bk m)]]) := by
  rw [callV_run tbl (f := 18) (fn := f18) rfl _ _ rfl]
  simp [f18, f18body]
theorem t11c (D : List Int) (hD : D.length ≤ 60) (h0 h1 : AO) (gD : Nat) (C : List AO) : ∀ (k i g g' : Nat), i + k = D.length → run tbl (.cl [.tmp 2, .tmp 3]) [.blk 2, .seq (f11r19.seq .ret)] (.loop [37, 36, 9, 8, 35, 10, 4] f11b18) [(37, .int .i64 i), (36, .int .i64 D.length), (9, .bptr (C.length + 1 + 1 + 1 + 1) 0), (8, .bptr (C.length + 1 + 1 + 1) 0), (35, .ref 2 gD 0 D.length), (10, .fn 18 [.bptr (C.length + 1 + 1 + 1) 0, .bptr (C.length + 1 + 1 + 1 + 1) 0]), (4, .ref 2 gD 0 D.length)]
      (h0 :: h1 :: .row 3 1 gD (D.map (.int .i64)) :: (C ++ [.box 25 1 (.ref (C.length + 1 + 1 + 1 + 2) g 0 i), .box 25 1 (.ref (C.length + 1 + 1 + 1 + 3) g' 0 i), .row 37 6 g (((D.take i).map sv).map encM), .row 37 6 g' (((D.reverse.take i).map bk).map encM)])) = outK (D.map sv) (D.reverse.map bk)
  | 0, i, g, g', h => by
    obtain rfl : i = D.length := by omega
    rw [run_loopD _ _ f11b18_eq]
    simp
    rw [List.take_of_length_le (by simp), List.take_of_length_le (by simp)]
  | k + 1, i, g, g', h => by
    have hi : i < D.length := by omega
    have ih := t11c D hD h0 h1 gD C k (i + 1) (g + 1) (g' + 1) (by omega)
    rw [Int.natCast_succ] at ih
    have hc := cv18 D[i] (D.reverse[i]'(by simpa using hi)) (h0 :: h1 :: .row 3 1 gD (D.map (.int .i64)) :: C) ((D.take i).map sv) ((D.reverse.take i).map bk) g g' (by simp; omega) (by simp; omega)
    have w1 := wrap64 ((D.length : Int) - 1) (by omega) (by omega)
    have e1 : (D.length : Int) - 1 - i = ((D.length - 1 - i : Nat) : Int) := by omega
    have w2 := wrap64 ((D.length - 1 - i : Nat) : Int) (by omega) (by omega)
    have hq : D.length - 1 - i < D.length := by omega
    simp [Nat.min_eq_left (Nat.le_of_lt hi)] at hc
    rw [run_loopD _ _ f11b18_eq]
    simp [hi, wrapS i (by omega), w1, e1, w2, hq, hc]
    rw [List.take_succ_eq_append_getElem hi, List.take_succ_eq_append_getElem (l := D.reverse) (by simpa using hi)] at ih
    simp [-List.take_append_getElem] at ih
    exact ih
abbrev tail11 : IC := f11r11.seq (f11r12.seq ((f11r13.seq (.block 2 (.loop [37, 36, 9, 8, 35, 10, 4] f11b18))).seq (f11r19.seq .ret)))
def keepR (D : List Int) : Option (AV × List AO) := if D = [] then some (.tup [.e0, .e0], []) else outK (D.map sv) (D.reverse.map bk)
theorem t11b (D : List Int) (hD : D.length ≤ 60) (h0 h1 : AO) (gD : Nat) (C : List AO) (e : Env) (he : e.get 4 = .ref 2 gD 0 D.length) : run tbl (.cl [.tmp 2, .tmp 3]) [] tail11 e (h0 :: h1 :: .row 3 1 gD (D.map (.int .i64)) :: C) = keepR D := by
  by_cases hn : D = []
  · subst hn
    simp [he, keepR]
    rw [run_loopD _ _ f11b18_eq]
    simp
  · have hi : 0 < D.length := List.length_pos_iff.2 hn
    have ht := t11c D hD h0 h1 gD C (D.length - 1) 1 0 0 (by omega)
    have hc := cv18e D[0] (D.reverse[0]'(by simpa using hi)) (h0 :: h1 :: .row 3 1 gD (D.map (.int .i64)) :: C)
    have w1 := wrap64 ((D.length : Int) - 1) (by omega) (by omega)
    have e1 : (D.length : Int) - 1 = ((D.length - 1 : Nat) : Int) := by omega
    have w2 := wrap64 ((D.length - 1 : Nat) : Int) (by omega) (by omega)
    have hq : D.length - 1 < D.length := by omega
    rw [List.take_succ_eq_append_getElem hi, List.take_succ_eq_append_getElem (l := D.reverse) (by simpa using hi)] at ht
    simp [-List.take_append_getElem] at ht hc
    simp [he, keepR, hn]
    rw [run_loopD _ _ f11b18_eq]
    simp [hi, e1, w2, hq, hc]
    exact ht
/- the map -/
theorem mgetD_mset (z v : AV) : ∀ (kv : List (Int × AV)) (k j : Int), mgetD z (mset kv k v) j = if k = j then (v, true) else mgetD z kv j
  | [], k, j => by simp [mset, mgetD]
  | (i, u) :: r, k, j => by
    rw [mset]
    by_cases h : i = k
    · subst h
      by_cases h2 : i = j <;> simp [mgetD, h2]
    · rw [if_neg h, mgetD, mgetD_mset z v r k j]
      by_cases h2 : i = j
      · subst h2
        simp [mgetD, Ne.symm h]
      · simp [mgetD, h2]
theorem mem_ds (l : List Mv) (n : Int) : ∀ i, i ≤ l.length → (n ∈ ds l i ↔ (l.take i).any (fun m => m.fd == n) = true)
  | 0, _ => by simp [ds]
  | i + 1, h => by
    have hi : i < l.length := by omega
    have ih := mem_ds l n i (by omega)
    rw [ds, List.take_succ_eq_append_getElem hi, List.any_append, Bool.or_eq_true, ← ih]
    by_cases hk : known l i = true
    · rw [if_pos hk]
      refine ⟨.inl, fun hh => hh.elim id fun h2 => ?_⟩
      simp at h2
      subst h2
      rw [ih]
      simpa [known, fdAt_eq hi] using hk
    · rw [if_neg hk]
      simp only [fdAt_eq hi, List.mem_append, List.mem_singleton, List.any_cons, List.any_nil, Bool.or_false, beq_iff_eq]
      exact ⟨fun h => h.imp id Eq.symm, fun h => h.imp id Eq.symm⟩
theorem known_iff (l : List Mv) (i : Nat) (h : i < l.length) : known l i = true ↔ l[i].fd ∈ ds l i := by
  rw [mem_ds l _ i (by omega), known, fdAt_eq h]
abbrev MapOk (kv : List (Int × AV)) (D : List Int) : Prop := ∀ n, (mgetD (.bool false) kv n).1 = .bool (decide (n ∈ D))
theorem t11a (l : List Mv) (hl : l.length ≤ 60) (h0 h1 : AO) : ∀ (k i g : Nat) (kv : List (Int × AV)) (rest : List AO), i + k = l.length → MapOk kv (ds l i) → run tbl (.cl [.tmp 2, .tmp 3]) [.blk 0, .seq tail11] (.loop [4, 16, 15, 14, 5] f11b10) [(4, .ref 2 g 0 (ds l i).length), (16, .int .i64 i), (15, .int .i64 l.length), (14, .sl 6 (l.map encM)), (5, .mp 3)] (h0 :: h1 :: .row 3 1 g ((ds l i).map (.int .i64)) :: .obj (.mp kv) :: rest) = keepR (ds l l.length)
  | 0, i, g, kv, rest, h, hm => by
    obtain rfl : i = l.length := by omega
    rw [run_loopD _ _ f11b10_eq]
    have ht := fun e he => t11b (ds l l.length) (by have := ds_length l l.length; omega) h0 h1 g (.obj (.mp kv) :: rest) e he
    simp [-f11r11_run]
    rw [← run_seq]
    exact ht _ (by simp)
  | k + 1, i, g, kv, rest, h, hm => by
    have hi : i < l.length := by omega
    have hd := ds_length l i
    have hki := known_iff l i hi
    rw [run_loopD _ _ f11b10_eq]
    have hmi := hm l[i].fd
    by_cases hk : l[i].fd ∈ ds l i
    · have ih := fun r => t11a l hl h0 h1 k (i + 1) g kv r (by omega) (by rw [ds, if_pos (hki.2 hk)]; exact hm)
      rw [ds, if_pos (hki.2 hk)] at ih
      rw [Int.natCast_succ] at ih
      simp [hk] at hmi
      simp [hi, hmi, wrapS i (by omega), ih]
    · have ih := fun r => t11a l hl h0 h1 k (i + 1) (g + 1) (mset kv l[i].fd (.bool true)) r (by omega) (by
        intro n
        rw [ds, if_neg (fun h => hk (hki.1 h)), mgetD_mset, fdAt_eq hi]
        by_cases e : l[i].fd = n
        · simp [e]
        · rw [if_neg e, hm n]
          simp [Ne.symm e])
      rw [ds, if_neg (fun h => hk (hki.1 h)), fdAt_eq hi] at ih
      rw [Int.natCast_succ] at ih
      simp at ih
      simp [hk] at hmi
      simp [hi, hmi, wrapS i (by omega), show (ds l i).length ≤ 1073741823 by omega, ih]
theorem c11 (l : List Mv) (hl : l.length ≤ 60) : callW tbl 11 [.sl 6 (l.map encM)] = keepR (ds l l.length) := by
  rw [call_run tbl (f := 11) (fn := f11) rfl _ rfl]
  have h := t11a l hl (.row 37 6 0 []) (.row 37 6 0 []) l.length 0 0 [] [] (by omega) (by intro n; simp [mgetD, ds])
  simp [ds] at h
  simp [f11, f11body, h]
@[simp] theorem take_len_rev {α β : Type} (l : List α) (f : α → β) : (l.map f).reverse.take l.length = (l.map f).reverse := List.take_of_length_le (by simp)
theorem c4 (l : List Mv) : callW tbl 4 [.sl 6 (l.map encM)] = some (.bool true, []) := by
  rw [call_run tbl (f := 4) (fn := f4) rfl _ rfl]
  by_cases hs : (60 : Int) < l.length
  · simp [f4, f4body, hs, c7]
  · have hl : l.length ≤ 60 := by omega
    have hd := ds_length l l.length
    have h11 := c11 l hl
    have h12 := c12 l hl
    unfold keepR at h11
    by_cases hn : ds l l.length = []
    · rw [if_pos hn] at h11
      rw [hn] at h12
      simp at h12
      simp [f4, f4body, hs, h11, h12, c10e, c7]
    · rw [if_neg hn] at h11
      have ha := c10 ((ds l l.length).map sv) (by simp; omega)
      have hb := c10 ((ds l l.length).reverse.map bk) (by simp; omega)
      simp at h11 h12 ha hb
      simp [f4, f4body, hs, h11, h12, ha, hb, c7]
/-- a list of moves, read -/
theorem mvs {c : AV} (h : HasTy (.sl true [.int .i64, .int .i64, .int .i64, .int .i64, .str, .str]) c) : ∃ l : List Mv, c = .sl 6 (l.map encM) ∧ l.length ≤ maxLen ∧ ∀ x ∈ l, True :=
  HasTy.structs h (fun cs hl hj => by
    have h0 := Tys.of _ cs hl hj
    obtain ⟨_, _, rfl, k0, h0⟩ := h0.cons_inv
    obtain ⟨_, _, rfl, k1, h0⟩ := h0.cons_inv
    obtain ⟨_, _, rfl, k2, h0⟩ := h0.cons_inv
    obtain ⟨_, _, rfl, k3, h0⟩ := h0.cons_inv
    obtain ⟨_, _, rfl, k4, h0⟩ := h0.cons_inv
    obtain ⟨_, _, rfl, k5, h0⟩ := h0.cons_inv
    obtain rfl := h0.nil_inv
    obtain ⟨a, rfl, _⟩ := k0.int_inv
    obtain ⟨b, rfl, _⟩ := k1.int_inv
    obtain ⟨d, rfl, _⟩ := k2.int_inv
    obtain ⟨e, rfl, _⟩ := k3.int_inv
    obtain ⟨f, rfl, _⟩ := k4.str_inv
    obtain ⟨s, rfl, _⟩ := k5.str_inv
    exact ⟨⟨a, b, d, e, f, s⟩, rfl, trivial⟩)
end Go.Proofs.Ytddcoboldcenkaa
