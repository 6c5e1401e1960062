/- Jobs: what Update gives, by the interpreter with rows in rows. No condition. -/
import Derived.Test.YtpphfbfmoipoaaaDoorJd
namespace Go.Proofs.YtpphfbfmoipoaaaDoor
open Go.PI
set_option maxRecDepth 100000
set_option maxHeartbeats 8000000
set_option linter.unusedSimpArgs false
theorem u21a (l : List Jb) (p w : Int) (hl : l.length ≤ 1000000) (hb : ∀ j ∈ l, BJ j) (hw : w ≤ mx) (h : memO p l 0 = none ∨ kd w < 0) : callW utbl 21 [jl l, .int .i64 p, .int .i64 w] = some (.tup [jl l, .bool false], []) := by
  rw [call_run utbl (f := 21) (fn := uf21) rfl _ rfl]
  have e1 := u34 p l hl hb
  have e2 := u62 w hw
  rw [show (kdv w).1 = kd w from rfl] at e2
  generalize kd w = q at e2 h
  cases hm : memO p l 0 with
  | none =>
    rw [hm] at e1
    simp only [o1, o2, oi, Option.map_none] at e1
    simp [uf21, uf21body, e1, e2]
  | some r =>
    rw [hm] at e1 h
    simp only [o1, o2, oi, Option.map_some] at e1
    have hq : q < 0 := by rcases h with h | h <;> simp_all
    simp [uf21, uf21body, e1, e2, hq]
theorem im_set (l : List Int) (a : Nat) (w : Int) : (im l).set a (.int .i64 w) = im (l.set a w) := by simp [im]
/-- closing the row -/
theorem close_at (x0 x1 : AO) (Z : List AO) (q q' : List Jb) (hq : refsJ 3 q = refsJ 3 q') : closeL [2] (x0 :: x1 :: .rr 42 7 0 (refsJ 3 q) :: (rowsJ q' ++ Z)) = x0 :: x1 :: .row 42 7 0 (q'.map encJ) :: (fzsJ q' ++ Z) := by
  have h1 := frz_refs q' 3 [x0, x1, .rr 42 7 0 (refsJ 3 q)] Z rfl
  have h2 := conv_refs _ q' 3 (rowsOf_rows q' 3 [x0, x1, .rr 42 7 0 (refsJ 3 q)] Z rfl)
  simp only [List.cons_append, List.nil_append] at h1 h2
  have h3 := refsJ_agg 3 q
  simp only [closeL, closeR, List.getElem?_cons_succ, List.getElem?_cons_zero]
  rw [if_pos h3]
  rw [hq] at h1 h2 ⊢
  rw [h1, h2]
  rfl
theorem refsJ_same : ∀ (n : Nat) (A : List Jb) (x y : Jb) (B : List Jb), encR 0 x = encR 0 y → refsJ n (A ++ x :: B) = refsJ n (A ++ y :: B) := by
  intro n A x y B h
  rw [refsJ_app, refsJ_app]
  congr 2
  simp only [encR, AV.agg.injEq, List.cons.injEq, AV.int.injEq, AV.ref.injEq, AV.str.injEq, AV.bool.injEq, true_and, and_true] at h ⊢
  exact h
theorem cl0 (H : List AO) : closeL [] H = H := rfl
theorem cl1 {H : List AO} {k T s g : Nat} {es : List AV} (h : H[k]? = some (.row T s g es)) : closeL [k] H = H := by simp only [closeL, closeR, h]
theorem clr2 (x0 x1 : AO) (Z : List AO) (es : List AV) : closeL [2] (x0 :: x1 :: .row 42 7 0 es :: Z) = x0 :: x1 :: .row 42 7 0 es :: Z := cl1 (T := 42) (s := 7) (g := 0) (es := es) rfl
theorem close1 (x0 x1 x2 r : AO) (Z : List AO) (L1 : List Jb) (es : List AV) : closeL [2 * L1.length + 3 + 1] (x0 :: x1 :: x2 :: (rowsJ L1 ++ r :: .row 3 1 0 es :: Z)) = x0 :: x1 :: x2 :: (rowsJ L1 ++ r :: .row 3 1 0 es :: Z) := by
  refine cl1 (T := 3) (s := 1) (g := 0) (es := es) ?_
  simp [get_kk]
theorem close2 (x0 x1 : AO) (Z : List AO) (L1 L2 : List Jb) (x y : Jb) (s : List Int) (hs : s.length = y.stats.length) (hp : x.pids.length = y.pids.length) (hss : x.stats.length = y.stats.length) :
    closeL [2] (x0 :: x1 :: .rr 42 7 0 (refsJ 3 L1 ++ .agg [.int .i64 y.num, .int .i64 y.pgid, .int .i64 y.state, .ref (2 * L1.length + 3) 0 0 x.pids.length, .ref (2 * L1.length + 3 + 1) 0 0 x.stats.length, .str y.text, .bool y.noted] :: refsJ (2 * L1.length + 5) L2) :: (rowsJ L1 ++ .row 3 1 0 (im y.pids) :: .row 3 1 0 (im s) :: (rowsJ L2 ++ Z))) =
      x0 :: x1 :: .row 42 7 0 (L1.map encJ ++ encJ { y with stats := s } :: L2.map encJ) :: (fzsJ L1 ++ .fz 1 0 (im y.pids) :: .fz 1 0 (im s) :: (fzsJ L2 ++ Z)) := by
  have h := close_at x0 x1 Z (L1 ++ { y with stats := s } :: L2) (L1 ++ { y with stats := s } :: L2) rfl
  rw [refsJ_app, rowsJ_app, fzsJ_app] at h
  simp only [rowsJ, fzsJ, List.append_assoc, List.cons_append, List.map_append, List.map_cons] at h
  rw [hp, hss, ← hs]
  exact h
theorem frz_sub {I J : List Nat} (H : List AO) (h : ∀ i ∈ I, i ∈ J) : frz J (frz I H) = frz J H := by
  apply List.ext_getElem?
  intro k
  simp only [frz_get]
  by_cases hj : k ∈ J
  · by_cases hi : k ∈ I
    · simp only [hi, hj, if_true, Option.map_map]
      cases H[k]? with
      | none => rfl
      | some o => simp [frzO_frzO]
    · simp [hi, hj]
  · have hi : ¬ k ∈ I := fun hi => hj (h k hi)
    simp [hj, hi]
theorem closeR_frz {H : List AO} {k T s g : Nat} {es : List AV} {I : List Nat} (hk : H[k]? = some (.rr T s g es)) (ha : es.all isAgg' = true) (hI : ∀ i ∈ I, i ∈ es.flatMap refs1) : closeL [k] (frz I H) = closeL [k] H := by
  have h1 : (frz I H)[k]? = some (.rr T s g es) := by
    rw [frz_get, hk]; split <;> rfl
  simp only [closeL, closeR, h1, hk]
  rw [if_pos ha, if_pos ha, frz_sub H hI]
  congr 2
  exact List.map_congr_left (fun v _ => conv1_heap (fun id g _ => rdRow_frz I H id g))
theorem close3 (x0 x1 : AO) (Z : List AO) (L1 L2 : List Jb) (x y : Jb) (s : List Int) (hs : s.length = y.stats.length) (hp : x.pids.length = y.pids.length) (hss : x.stats.length = y.stats.length) :
    closeL [2] (x0 :: x1 :: .rr 42 7 0 (refsJ 3 L1 ++ .agg [.int .i64 y.num, .int .i64 y.pgid, .int .i64 y.state, .ref (2 * L1.length + 3) 0 0 x.pids.length, .ref (2 * L1.length + 3 + 1) 0 0 x.stats.length, .str y.text, .bool y.noted] :: refsJ (2 * L1.length + 5) L2) :: (rowsJ L1 ++ .fz 1 0 (im y.pids) :: .fz 1 0 (im s) :: (rowsJ L2 ++ Z))) =
      x0 :: x1 :: .row 42 7 0 (L1.map encJ ++ encJ { y with stats := s } :: L2.map encJ) :: (fzsJ L1 ++ .fz 1 0 (im y.pids) :: .fz 1 0 (im s) :: (fzsJ L2 ++ Z)) := by
  rw [← close2 x0 x1 Z L1 L2 x y s hs hp hss]
  refine Eq.trans ?_ (closeR_frz (H := x0 :: x1 :: .rr 42 7 0 (refsJ 3 L1 ++ .agg [.int .i64 y.num, .int .i64 y.pgid, .int .i64 y.state, .ref (2 * L1.length + 3) 0 0 x.pids.length, .ref (2 * L1.length + 3 + 1) 0 0 x.stats.length, .str y.text, .bool y.noted] :: refsJ (2 * L1.length + 5) L2) :: (rowsJ L1 ++ .row 3 1 0 (im y.pids) :: .row 3 1 0 (im s) :: (rowsJ L2 ++ Z))) (k := 2) (T := 42) (s := 7) (g := 0) (I := [2 * L1.length + 3, 2 * L1.length + 3 + 1]) (es := refsJ 3 L1 ++ .agg [.int .i64 y.num, .int .i64 y.pgid, .int .i64 y.state, .ref (2 * L1.length + 3) 0 0 x.pids.length, .ref (2 * L1.length + 3 + 1) 0 0 x.stats.length, .str y.text, .bool y.noted] :: refsJ (2 * L1.length + 5) L2) rfl ?_ ?_)
  · congr 1
    simp [PI.frz, get_k, set_k, get_kk, set_kk]
  · rw [List.all_append, List.all_cons, refsJ_agg, refsJ_agg]; rfl
  · intro i hi
    simp at hi
    rw [List.flatMap_append, List.flatMap_cons]
    refine List.mem_append.2 (.inr (List.mem_append.2 (.inl ?_)))
    rcases hi with rfl | rfl <;> simp
/-- what is known when the row has been cloned -/
theorem u39' (L L1 L2 : List Jb) (x : Jb) (hL : L = L1 ++ x :: L2) (hl : L.length ≤ 1000000) (hb : ∀ j ∈ L, BJ j) : callV utbl 39 [jl L] [.row 42 7 0 []] =
    some (.ref 2 0 0 (L1.length + (L2.length + 1)), .row 42 7 0 [] :: .row 42 7 0 [] :: .rr 42 7 0 (refsJ 3 L1 ++ .agg [.int .i64 x.num, .int .i64 x.pgid, .int .i64 x.state, .ref (2 * L1.length + 3) 0 0 x.pids.length, .ref (2 * L1.length + 3 + 1) 0 0 x.stats.length, .str x.text, .bool x.noted] :: refsJ (2 * L1.length + 5) L2) :: (rowsJ L1 ++ .row 3 1 0 (im x.pids) :: .row 3 1 0 (im x.stats) :: rowsJ L2)) := by
  have e3 := u39 L hl hb [.row 42 7 0 []]
  rw [e3]
  subst hL
  simp [mk, refsJ_app, rowsJ_app, rowsJ]
theorem u21b (L L1 L2 : List Jb) (x : Jb) (p w W : Int) (a : Nat) (hL : L = L1 ++ x :: L2) (hl : L.length ≤ 1000000) (hb : ∀ j ∈ L, BJ j) (hs : ∀ n ∈ x.stats, n ≤ mx) (hw : w ≤ mx) (hW : W = if w = 768 then -1 else w) (hm : memO p L 0 = some (L1.length, a)) (ha : a < x.stats.length) (hk : ¬ kd w < 0)
    (hst : stL (x.stats.set a W) false = x.state) :
    callW utbl 21 [jl L, .int .i64 p, .int .i64 w] = some (.tup [.ref 0 0 0 L.length, .bool true], [.row 42 7 0 ((L1 ++ { x with stats := x.stats.set a W } :: L2).map encJ)]) := by
  rw [call_run utbl (f := 21) (fn := uf21) rfl _ rfl]
  have e1 := u34 p _ hl hb
  have e2 := u62 w hw
  have e3 := u39' L L1 L2 x hL hl hb
  have hlen : L.length = L1.length + (L2.length + 1) := by rw [hL]; simp
  rw [hm] at e1
  simp only [o1, o2, oi, Option.map_some] at e1
  rw [show (kdv w).1 = kd w from rfl] at e2
  generalize kd w = q at e2 hk
  have n0 : ¬ (L1.length : Int) < 0 := by omega
  have hWm : W ≤ mx := by rw [hW]; split; exact (by decide : (-1 : Int) ≤ mx); exact hw
  have e4 := u64 (x.stats.set a W) (by simpa using (hb x (by rw [hL]; simp)).2) (fun n hn => by rcases List.mem_or_eq_of_mem_set hn with h | h; exact hs n h; rw [h]; exact hWm)
  have hsl : (x.stats.set a W).length = x.stats.length := by simp
  have tk : (im (x.stats.set a W)).take x.stats.length = im (x.stats.set a W) := List.take_of_length_le (by simp)
  generalize hst' : stL (x.stats.set a W) false = s at e4 hst
  have im_s : (im x.stats).set a (.int .i64 W) = im (x.stats.set a W) := im_set _ _ _
  have tkp : (im x.pids).take x.pids.length = im x.pids := List.take_of_length_le (by simp)
  subst hst
  have cl2 := fun Z => close2 (.row 42 7 0 []) (.row 42 7 0 []) Z L1 L2 x x (x.stats.set a W) hsl rfl rfl
  by_cases h7 : w = 768
  · rw [if_pos h7] at hW
    subst hW
    subst h7
    simp [uf21, uf21body, e1, e2, e3, e4, tk, tkp, hk, u63, n0, ha, im_s, get_k, set_k, get_kk, set_kk, -List.map_set, -closeL, -closeR, cl0, close1, cl2]
    exact ⟨hlen.symm, List.take_of_length_le (by simp)⟩
  · rw [if_neg h7] at hW
    subst hW
    simp [uf21, uf21body, e1, e2, e3, e4, tk, tkp, hk, u63, n0, ha, im_s, get_k, set_k, get_kk, set_kk, -List.map_set, -closeL, -closeR, cl0, close1, cl2, h7]
    exact ⟨hlen.symm, List.take_of_length_le (by simp)⟩
theorem u21c (L L1 L2 : List Jb) (x : Jb) (p w W : Int) (a : Nat) (hL : L = L1 ++ x :: L2) (hl : L.length ≤ 1000000) (hb : ∀ j ∈ L, BJ j) (hs : ∀ n ∈ x.stats, n ≤ mx) (hw : w ≤ mx) (hW : W = if w = 768 then -1 else w) (hm : memO p L 0 = some (L1.length, a)) (ha : a < x.stats.length) (hk : ¬ kd w < 0)
    (hst : ¬ stL (x.stats.set a W) false = x.state) (hs2 : ¬ stL (x.stats.set a W) false = 2) :
    callW utbl 21 [jl L, .int .i64 p, .int .i64 w] = some (.tup [.ref 0 0 0 L.length, .bool true], [.row 42 7 0 ((L1 ++ { x with stats := x.stats.set a W, state := stL (x.stats.set a W) false, noted := false } :: L2).map encJ)]) := by
  rw [call_run utbl (f := 21) (fn := uf21) rfl _ rfl]
  have e1 := u34 p _ hl hb
  have e2 := u62 w hw
  have e3 := u39' L L1 L2 x hL hl hb
  have hlen : L.length = L1.length + (L2.length + 1) := by rw [hL]; simp
  rw [hm] at e1
  simp only [o1, o2, oi, Option.map_some] at e1
  rw [show (kdv w).1 = kd w from rfl] at e2
  generalize kd w = q at e2 hk
  have n0 : ¬ (L1.length : Int) < 0 := by omega
  have hWm : W ≤ mx := by rw [hW]; split; exact (by decide : (-1 : Int) ≤ mx); exact hw
  have e4 := u64 (x.stats.set a W) (by simpa using (hb x (by rw [hL]; simp)).2) (fun n hn => by rcases List.mem_or_eq_of_mem_set hn with h | h; exact hs n h; rw [h]; exact hWm)
  have hsl : (x.stats.set a W).length = x.stats.length := by simp
  have tk : (im (x.stats.set a W)).take x.stats.length = im (x.stats.set a W) := List.take_of_length_le (by simp)
  generalize hst' : stL (x.stats.set a W) false = s at e4 hst hs2 ⊢
  have im_s : (im x.stats).set a (.int .i64 W) = im (x.stats.set a W) := im_set _ _ _
  have tkp : (im x.pids).take x.pids.length = im x.pids := List.take_of_length_le (by simp)
  have cl2 := fun Z => close2 (.row 42 7 0 []) (.row 42 7 0 []) Z L1 L2 x { x with state := s, noted := false } (x.stats.set a W) hsl rfl rfl
  simp only at cl2
  by_cases h7 : w = 768
  · rw [if_pos h7] at hW
    subst hW
    subst h7
    simp [uf21, uf21body, e1, e2, e3, e4, tk, tkp, hk, u63, n0, ha, im_s, get_k, set_k, get_kk, set_kk, -List.map_set, -closeL, -closeR, cl0, close1, cl2, hst, hs2]
    exact ⟨hlen.symm, List.take_of_length_le (by simp)⟩
  · rw [if_neg h7] at hW
    subst hW
    simp [uf21, uf21body, e1, e2, e3, e4, tk, tkp, hk, u63, n0, ha, im_s, get_k, set_k, get_kk, set_kk, -List.map_set, -closeL, -closeR, cl0, close1, cl2, h7, hst, hs2]
    exact ⟨hlen.symm, List.take_of_length_le (by simp)⟩
theorem u21d (L L1 L2 : List Jb) (x : Jb) (p w W : Int) (a : Nat) (hL : L = L1 ++ x :: L2) (hl : L.length ≤ 1000000) (hb : ∀ j ∈ L, BJ j) (hs : ∀ n ∈ x.stats, n ≤ mx) (hw : w ≤ mx) (hW : W = if w = 768 then -1 else w) (hm : memO p L 0 = some (L1.length, a)) (ha : a < x.stats.length) (hk : ¬ kd w < 0)
    (hst : ¬ stL (x.stats.set a W) false = x.state) (hs2 : stL (x.stats.set a W) false = 2) :
    callW utbl 21 [jl L, .int .i64 p, .int .i64 w] = some (.tup [.ref 0 0 0 L.length, .bool true], [.row 42 7 0 ((L1 ++ (L2 ++ [{ x with stats := x.stats.set a W, state := 2, noted := false }])).map encJ)]) := by
  rw [call_run utbl (f := 21) (fn := uf21) rfl _ rfl]
  have e1 := u34 p _ hl hb
  have e2 := u62 w hw
  have e3 := u39' L L1 L2 x hL hl hb
  have hlen : L.length = L1.length + (L2.length + 1) := by rw [hL]; simp
  rw [hm] at e1
  simp only [o1, o2, oi, Option.map_some] at e1
  rw [show (kdv w).1 = kd w from rfl] at e2
  generalize kd w = q at e2 hk
  have n0 : ¬ (L1.length : Int) < 0 := by omega
  have hWm : W ≤ mx := by rw [hW]; split; exact (by decide : (-1 : Int) ≤ mx); exact hw
  have e4 := u64 (x.stats.set a W) (by simpa using (hb x (by rw [hL]; simp)).2) (fun n hn => by rcases List.mem_or_eq_of_mem_set hn with h | h; exact hs n h; rw [h]; exact hWm)
  have hsl : (x.stats.set a W).length = x.stats.length := by simp
  have tk : (im (x.stats.set a W)).take x.stats.length = im (x.stats.set a W) := List.take_of_length_le (by simp)
  rw [hs2] at e4 hst
  have im_s : (im x.stats).set a (.int .i64 W) = im (x.stats.set a W) := im_set _ _ _
  have tkp : (im x.pids).take x.pids.length = im x.pids := List.take_of_length_le (by simp)
  have cl2 := fun Z => close2 (.row 42 7 0 []) (.row 42 7 0 []) Z L1 L2 x { x with state := 2, noted := false } (x.stats.set a W) hsl rfl rfl
  have cl3 := fun Z => close3 (.row 42 7 0 []) (.row 42 7 0 []) Z L1 L2 x { x with state := 2, noted := false } (x.stats.set a W) hsl rfl rfl
  have h65 := fun Z => u65 (.row 42 7 0 []) (.row 42 7 0 []) Z (L1.map encJ) (L2.map encJ) (encJ { x with stats := x.stats.set a W, state := 2, noted := false }) (L1.length + (L2.length + 1)) L1.length L2.length (by simp) (by simp) rfl (by omega)
  have hle : L1.length + L2.length + 1 ≤ L1.length + (L2.length + 1) := by omega
  have ws := wrap64 ((L1.length : Int) + 1) (by omega) (by omega)
  have tk3 : (L1.map encJ ++ (L2.map encJ ++ [tops 7])).take (L1.length + L2.length) = L1.map encJ ++ L2.map encJ := by
    rw [← List.append_assoc, List.take_left' (by simp)]
  have dr3 : (L1.map encJ ++ (L2.map encJ ++ [tops 7])).drop (L1.length + L2.length + 1) = [] := List.drop_eq_nil_of_le (by simp; omega)
  simp only at cl2 cl3
  by_cases h7 : w = 768
  · rw [if_pos h7] at hW
    subst hW
    subst h7
    simp [uf21, uf21body, e1, e2, e3, e4, tk, tkp, hk, u63, n0, ha, im_s, get_k, set_k, get_kk, set_kk, -List.map_set, -closeL, -closeR, cl0, close1, cl2, hst, cl3, clr2, hle, h65, ws, tk3, dr3]
    exact ⟨by omega, List.take_of_length_le (by simp; omega)⟩
  · rw [if_neg h7] at hW
    subst hW
    simp [uf21, uf21body, e1, e2, e3, e4, tk, tkp, hk, u63, n0, ha, im_s, get_k, set_k, get_kk, set_kk, -List.map_set, -closeL, -closeR, cl0, close1, cl2, h7, hst, cl3, clr2, hle, h65, ws, tk3, dr3]
    exact ⟨by omega, List.take_of_length_le (by simp; omega)⟩
end Go.Proofs.YtpphfbfmoipoaaaDoor
