/- Signals: the library's functions on slices, in the caller's frame. No condition. -/
import Derived.Test.YtlkfejigeeddaaaDoorLst
namespace Go.Proofs.YtlkfejigeeddaaaDoor
open Go.PI
set_option maxRecDepth 100000
set_option maxHeartbeats 8000000
set_option linter.unusedSimpArgs false
@[simp] theorem get_mid {α : Type} (A : List α) (x : α) (Z : List α) : (A ++ x :: Z)[A.length]? = some x := by simp
@[simp] theorem set_mid {α : Type} (A : List α) (x y : α) (Z : List α) : (A ++ x :: Z).set A.length y = A ++ y :: Z := by
  induction A with
  | nil => rfl
  | cons a A ih => simp [ih]
@[simp] theorem get_app_add {α : Type} (A Z : List α) (k : Nat) : (A ++ Z)[A.length + k]? = Z[k]? := by
  rw [List.getElem?_append_right (by omega)]
  congr 1
  omega
abbrev im (l : List Int) : List AV := l.map (.int .i64)
/- Index, Contains -/
def ixL (p : Int → Bool) : List Int → Nat → Int
  | [], _ => -1
  | x :: r, i => if p x = true then (i : Int) else ixL p r (i + 1)
theorem ixL_step {p : Int → Bool} {l : List Int} {i : Nat} (h : i < l.length) : ixL p (l.drop i) i = if p l[i] = true then (i : Int) else ixL p (l.drop (i + 1)) (i + 1) := by rw [drop_step h]; rfl
theorem ixL_any (p : Int → Bool) : ∀ (l : List Int) (i : Nat), decide (0 ≤ ixL p l i) = l.any p
  | [], i => by simp [ixL]
  | x :: r, i => by
    rw [ixL, List.any_cons]
    cases hx : p x
    · simp
      have := ixL_any p r (i + 1)
      simpa using this
    · simp
theorem t51 (l : List Int) (hl : l.length ≤ 1000000) (n : Int) : ∀ (k i : Nat), i + k = l.length → run tbl (.cl [.tmp 4]) [.blk 0, .seq (f51r8.seq .ret)] (.loop [7, 1, 0, 8] f51b7) [(7, .int .i64 l.length), (1, .int .i64 n), (0, il l), (8, .int .i64 i)] [] = some (.int .i64 (ixL (fun m => decide (n = m)) (l.drop i) i), [])
  | 0, i, h => by
    rw [run_loopD _ _ f51b7_eq]
    simp [show ¬ i < l.length by omega, show l.drop i = [] from List.drop_eq_nil_of_le (by omega), ixL]
  | k + 1, i, h => by
    have hi : i < l.length := by omega
    have ih := t51 l hl n k (i + 1) (by omega)
    rw [Int.natCast_succ] at ih
    rw [run_loopD _ _ f51b7_eq, ixL_step hi]
    by_cases e : n = l[i]
    · simp [hi, eq_true e]
    · simp [hi, e, wrapS i (by omega), ih]
theorem c39 (l : List Int) (hl : l.length ≤ 1000000) (n : Int) : callW tbl 39 [il l, .int .i64 n] = some (.bool (decide (n ∈ l)), []) := by
  have h51 : callW tbl 51 [il l, .int .i64 n] = some (.int .i64 (ixL (fun m => decide (n = m)) l 0), []) := by
    rw [call_run tbl (f := 51) (fn := f51) rfl _ rfl]
    have h := t51 l hl n l.length 0 (by omega)
    simp at h
    simp [f51, f51body, h]
  rw [call_run tbl (f := 39) (fn := f39) rfl _ rfl]
  have e := ixL_any (fun m => decide (n = m)) l 0
  have e2 : l.any (fun m => decide (n = m)) = decide (n ∈ l) := by
    by_cases hm : n ∈ l
    · simp only [hm, decide_true]; exact List.any_eq_true.2 ⟨n, hm, by simp⟩
    · simp only [hm, decide_false]; exact List.any_eq_false.2 fun m hm' => by simp; intro e; subst e; exact hm hm'
  rw [e2] at e
  by_cases h0 : 0 ≤ ixL (fun m => decide (n = m)) l 0
  · simp [h0] at e
    simp [f39, f39body, h51, h0, e]
  · simp [h0] at e
    simp [f39, f39body, h51, h0, e]
/- IndexFunc on a list, on a row -/
theorem t54 (l : List Int) (hl : l.length ≤ 1000000) (f : Nat) (caps : List AV) (p : Int → Bool) (H : List AO) (hp : ∀ m, callV tbl f (.int .i64 m :: caps) H = some (.bool (p m), H)) : ∀ (k i : Nat), i + k = l.length → run tbl (.op [.tmp 4]) [.blk 0, .seq (f54r8.seq .ret)] (.loop [7, 1, 0, 8] f54b7) [(7, .int .i64 l.length), (1, .fn f caps), (0, il l), (8, .int .i64 i)] H = some (.int .i64 (ixL p (l.drop i) i), H)
  | 0, i, h => by
    rw [run_loopD _ _ f54b7_eq]
    simp [show ¬ i < l.length by omega, show l.drop i = [] from List.drop_eq_nil_of_le (by omega), ixL]
  | k + 1, i, h => by
    have hi : i < l.length := by omega
    have ih := t54 l hl f caps p H hp k (i + 1) (by omega)
    rw [Int.natCast_succ] at ih
    rw [run_loopD _ _ f54b7_eq, ixL_step hi]
    cases e : p l[i]
    · simp [hi, hp, e, wrapS i (by omega), ih]
    · simp [hi, hp, e]
theorem c54 (l : List Int) (hl : l.length ≤ 1000000) (f : Nat) (caps : List AV) (p : Int → Bool) (H : List AO) (hp : ∀ m, callV tbl f (.int .i64 m :: caps) H = some (.bool (p m), H)) : callV tbl 54 [il l, .fn f caps] H = some (.int .i64 (ixL p l 0), H) := by
  rw [callV_run tbl (f := 54) (fn := f54) rfl _ _ rfl]
  have h := t54 l hl f caps p H hp l.length 0 (by omega)
  simp at h
  simp [f54, f54body, h]
theorem c48 (l : List Int) (hl : l.length ≤ 1000000) (f : Nat) (caps : List AV) (p : Int → Bool) (H : List AO) (hp : ∀ m, callV tbl f (.int .i64 m :: caps) H = some (.bool (p m), H)) : callV tbl 48 [il l, .fn f caps] H = some (.bool (l.any p), H) := by
  rw [callV_run tbl (f := 48) (fn := f48) rfl _ _ rfl]
  have h := c54 l hl f caps p H hp
  have e := ixL_any p l 0
  by_cases h0 : 0 ≤ ixL p l 0
  · simp only [h0, decide_true] at e
    simp [f48, f48body, h, h0, ← e]
  · simp only [h0, decide_false] at e
    simp [f48, f48body, h, h0, ← e]
theorem t54r (l : List Int) (hl : l.length ≤ 1000000) (f : Nat) (caps : List AV) (p : Int → Bool) (A Z : List AO) (g : Nat) (T : List AV) (hp : ∀ m, callV tbl f (.int .i64 m :: caps) (A ++ .row 3 1 g (im l ++ T) :: Z) = some (.bool (p m), A ++ .row 3 1 g (im l ++ T) :: Z)) : ∀ (k i : Nat), i + k = l.length → run tbl (.op [.tmp 4]) [.blk 0, .seq (f54r8.seq .ret)] (.loop [7, 1, 0, 8] f54b7) [(7, .int .i64 l.length), (1, .fn f caps), (0, .ref A.length g 0 l.length), (8, .int .i64 i)] (A ++ .row 3 1 g (im l ++ T) :: Z) = some (.int .i64 (ixL p (l.drop i) i), A ++ .row 3 1 g (im l ++ T) :: Z)
  | 0, i, h => by
    rw [run_loopD _ _ f54b7_eq]
    simp [show ¬ i < l.length by omega, show l.drop i = [] from List.drop_eq_nil_of_le (by omega), ixL]
  | k + 1, i, h => by
    have hi : i < l.length := by omega
    have ih := t54r l hl f caps p A Z g T hp k (i + 1) (by omega)
    rw [Int.natCast_succ] at ih
    have hg : (im l ++ T)[i]? = some (.int .i64 l[i]) := by rw [List.getElem?_append_left (by simpa using hi)]; simp [hi]
    rw [run_loopD _ _ f54b7_eq, ixL_step hi]
    cases e : p l[i]
    · simp [hi, hp, e, wrapS i (by omega), ih, hg]
    · simp [hi, hp, e, hg]
theorem c54r (l : List Int) (hl : l.length ≤ 1000000) (f : Nat) (caps : List AV) (p : Int → Bool) (A Z : List AO) (g : Nat) (T : List AV) (hp : ∀ m, callV tbl f (.int .i64 m :: caps) (A ++ .row 3 1 g (im l ++ T) :: Z) = some (.bool (p m), A ++ .row 3 1 g (im l ++ T) :: Z)) :
    callV tbl 54 [.ref A.length g 0 l.length, .fn f caps] (A ++ .row 3 1 g (im l ++ T) :: Z) = some (.int .i64 (ixL p l 0), A ++ .row 3 1 g (im l ++ T) :: Z) := by
  rw [callV_run tbl (f := 54) (fn := f54) rfl _ _ rfl]
  have h := t54r l hl f caps p A Z g T hp l.length 0 (by omega)
  simp at h
  simp [f54, f54body, h]
/- the predicates -/
theorem cv34 (m : Int) (H : List AO) : callV tbl 34 [.int .i64 m] H = some (.bool (stp' m), H) := by
  rw [callV_run tbl (f := 34) (fn := f34) rfl _ _ rfl]
  by_cases h1 : m = 19
  · simp [f34, f34body, stp', h1]
  by_cases h2 : m = 20
  · simp [f34, f34body, stp', h2]
  by_cases h3 : m = 4
  · simp [f34, f34body, stp', h3]
  by_cases h4 : m = 5
  · simp [f34, f34body, stp', h4]
  · simp [f34, f34body, stp', h1, h2, h3, h4]
def fx (m : Int) : Bool := decide (m = 9) || decide (m = 19)
theorem cv47 (m : Int) (H : List AO) : callV tbl 47 [.int .i64 m] H = some (.bool (fx m), H) := by
  rw [callV_run tbl (f := 47) (fn := f47) rfl _ _ rfl]
  by_cases h1 : m = 9
  · simp [f47, f47body, fx, h1]
  by_cases h2 : m = 19
  · simp [f47, f47body, fx, h2]
  · simp [f47, f47body, fx, h1, h2]
theorem c47 (m : Int) : callW tbl 47 [.int .i64 m] = some (.bool (fx m), []) := by
  rw [call_run tbl (f := 47) (fn := f47) rfl _ rfl]
  by_cases h1 : m = 9
  · simp [f47, f47body, fx, h1]
  by_cases h2 : m = 19
  · simp [f47, f47body, fx, h2]
  · simp [f47, f47body, fx, h1, h2]
theorem cv53 (m n : Int) (b : Nat) (H : List AO) (hb : H[b]? = some (.box 3 1 (.int .i64 n))) : callV tbl 53 [.int .i64 m, .bptr b 0] H = some (.bool (decide (m = n)), H) := by
  rw [callV_run tbl (f := 53) (fn := f53) rfl _ _ rfl]
  by_cases h : m = n
  · simp [f53, f53body, hb, eq_true h]
  · simp [f53, f53body, hb, h]
theorem cv49 (m : Int) (p i c : List Int) (hc : c.length ≤ 1000) (Z : List AO) : callV tbl 49 [.int .i64 m, .bptr 0 0] (.box 30 3 (encS p i c) :: Z) = some (.bool (decide (m ∈ c)), .box 30 3 (encS p i c) :: Z) := by
  rw [callV_run tbl (f := 49) (fn := f49) rfl _ _ rfl]
  have h := c39 c (by omega) m
  simp [f49, f49body, h]
/- DeleteFunc on a row of the frame -/
theorem spl_mid {α : Type} (X Y Z M : List α) (h : M.length = Y.length) : spl (X ++ (Y ++ Z)) X.length M = X ++ (M ++ Z) := by
  unfold spl
  rw [List.take_left', List.append_assoc, h]
  · congr 2
    rw [← List.append_assoc, show X.length + Y.length = (X ++ Y).length by simp, List.drop_left]
  · rfl
theorem t44 (l : List Int) (hl : l.length ≤ 1000000) (f : Nat) (caps : List AV) (p : Int → Bool) (A Z : List AO) (g : Nat) (T : List AV) (hp : ∀ m es, callV tbl f (.int .i64 m :: caps) (A ++ .row 3 1 g es :: Z) = some (.bool (p m), A ++ .row 3 1 g es :: Z)) :
    ∀ (k j : Nat) (F : List Int) (g0 : Int) (G : List Int), j + k = l.length → F.length + (G.length + 1) = j → ∃ T', run tbl (.op [.tmp 4]) [.blk 0, .seq (f44r12.seq (f44r13.seq .ret))] (.loop [5, 6, 1, 0] f44b11) [(5, .int .i64 F.length), (6, .int .i64 j), (1, .fn f caps), (0, .ref A.length g 0 l.length)] (A ++ .row 3 1 g (im F ++ (im (g0 :: G) ++ (im (l.drop j) ++ T))) :: Z)
      = some (.ref A.length g 0 (F ++ (l.drop j).filter (fun m => !p m)).length, A ++ .row 3 1 g (im (F ++ (l.drop j).filter (fun m => !p m)) ++ T') :: Z)
  | 0, j, F, g0, G, h, hj => by
    refine ⟨List.replicate (G.length + 1) (tops 1) ++ T, ?_⟩
    obtain rfl : j = l.length := by omega
    rw [run_loopD _ _ f44b11_eq]
    have hs := spl_mid (im F) (im (g0 :: G)) T (List.replicate (G.length + 1) (tops 1)) (by simp)
    simp only [List.length_map] at hs
    rw [List.drop_length]
    rw [← hj]
    simp at hs
    simp [isE, hs]
  | k + 1, j, F, g0, G, h, hj => by
    have hlt : j < l.length := by omega
    rw [drop_step hlt]
    have hg : ∀ (v : AV) (W : List AV), (im F ++ (im (g0 :: G) ++ (v :: W)))[j]? = some v := by
      intro v W
      rw [← hj, show F.length + (G.length + 1) = (im F).length + ((im (g0 :: G)).length + 0) by simp, get_app_add, get_app_add]
      rfl
    cases e : p l[j]
    · obtain ⟨T', ih⟩ := t44 l hl f caps p A Z g T hp k (j + 1) (F ++ [l[j]]) (match G with | [] => l[j] | g1 :: _ => g1) (match G with | [] => [] | _ :: G' => G' ++ [l[j]]) (by omega) (by cases G <;> simp at hj ⊢ <;> omega)
      refine ⟨T', ?_⟩
      rw [Int.natCast_succ] at ih
      have hset : ∀ (u v : AV) (W : List AV), (im F ++ (u :: W)).set F.length v = im F ++ (v :: W) := fun u v W => by
        have := set_mid (im F) u v W
        rwa [List.length_map] at this
      rw [run_loopD _ _ f44b11_eq]
      have hFl : F.length < l.length := by omega
      cases G with
      | nil =>
        simp at ih hg hset
        simp [-List.getElem_cons_drop, hlt, hFl, hp, hg, hset, e, wrapS j (by omega), wrapS F.length (by omega)]
        exact ih
      | cons g1 G' =>
        simp at ih hg hset
        simp [-List.getElem_cons_drop, hlt, hFl, hp, hg, hset, e, wrapS j (by omega), wrapS F.length (by omega)]
        exact ih
    · obtain ⟨T', ih⟩ := t44 l hl f caps p A Z g T hp k (j + 1) F g0 (G ++ [l[j]]) (by omega) (by simp; omega)
      refine ⟨T', ?_⟩
      rw [Int.natCast_succ] at ih
      rw [run_loopD _ _ f44b11_eq]
      simp at ih hg
      simp [-List.getElem_cons_drop, hlt, hp, hg, e, wrapS j (by omega)]
      exact ih
end Go.Proofs.YtlkfejigeeddaaaDoor
