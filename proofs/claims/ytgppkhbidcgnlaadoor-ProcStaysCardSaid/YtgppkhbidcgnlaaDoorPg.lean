/- Lists of processes whose parts may be nil: IndexFunc, ContainsFunc, selected, live, clone, copied, Same. No condition. -/
import Derived.Test.YtgppkhbidcgnlaaDoorPx
namespace Go.Proofs.YtgppkhbidcgnlaaDoor
open Go.PI
set_option maxRecDepth 100000
set_option maxHeartbeats 8000000
set_option linter.unusedSimpArgs false
/-- the first place that fits, or -1 -/
def ixG {α : Type} (p : α → Bool) : List α → Nat → Int
  | [], _ => -1
  | x :: r, i => if p x = true then (i : Int) else ixG p r (i + 1)
theorem ixG_step {α : Type} {p : α → Bool} {l : List α} {i : Nat} (h : i < l.length) : ixG p (l.drop i) i = if p l[i] = true then (i : Int) else ixG p (l.drop (i + 1)) (i + 1) := by rw [drop_step h]; rfl
theorem ixG_spec {α : Type} (p : α → Bool) : ∀ (l : List α) (i : Nat), (ixG p l i = -1 ∧ ∀ x ∈ l, p x = false) ∨ ∃ k, ∃ h : k < l.length, ixG p l i = ((i + k : Nat) : Int) ∧ (∀ x ∈ l.take k, p x = false) ∧ p l[k] = true
  | [], i => .inl ⟨rfl, by simp⟩
  | x :: r, i => by
    rw [ixG]
    cases hx : p x
    · rcases ixG_spec p r (i + 1) with ⟨h1, h2⟩ | ⟨k, hk, h1, h2, h3⟩
      · refine .inl ⟨by simpa using h1, fun y hy => ?_⟩
        rcases List.mem_cons.1 hy with rfl | hy
        · exact hx
        · exact h2 y hy
      · refine .inr ⟨k + 1, by simpa using hk, by simp [h1]; omega, fun y hy => ?_, by simpa using h3⟩
        rw [List.take_succ_cons] at hy
        rcases List.mem_cons.1 hy with rfl | hy
        · exact hx
        · exact h2 y hy
    · exact .inr ⟨0, by simp, by simp, by simp, by simpa using hx⟩
theorem ixG_any {α : Type} (p : α → Bool) (l : List α) : decide (0 ≤ ixG p l 0) = l.any p := by
  rcases ixG_spec p l 0 with ⟨h1, h2⟩ | ⟨k, hk, h1, h2, h3⟩
  · rw [h1]
    cases h : l.any p
    · rfl
    · obtain ⟨x, hx, hp⟩ := List.any_eq_true.1 h
      rw [h2 x hx] at hp; cases hp
  · rw [h1, List.any_eq_true.2 ⟨l[k], List.getElem_mem hk, h3⟩]
    simp
/-- where a list of processes lies -/
inductive IsS (A : List AO) : AV → List Px → Prop
  | sl (l : List Px) : IsS A (pX l) l
  | rf (s g : Nat) (l : List Px) (h : A[s]? = some (.row 30 13 g (l.map encX))) : IsS A (.ref s g 0 l.length) l
theorem IsS.ln {A : List AO} {src : AV} {l : List Px} (h : IsS A src l) : alen src = some l.length := by cases h <;> simp
theorem IsS.mono {A Z : List AO} {src : AV} {l : List Px} (h : IsS A src l) : IsS (A ++ Z) src l := by
  cases h with
  | sl l => exact .sl l
  | rf s g l h => exact .rf s g l (getL h)
/-- a closure that looks at a process: it only puts boxes behind -/
abbrev Looks (f : Nat) (caps : List AV) (p : Px → Bool) (A : List AO) : Prop := ∀ x Z, ∃ Z', callV tbl f (encX x :: caps) (A ++ Z) = some (.bool (p x), A ++ (Z ++ Z'))
theorem t52x {l : List Px} (hl : l.length ≤ 1000000) {f : Nat} {caps : List AV} {p : Px → Bool} {A : List AO} (hp : Looks f caps p A) {src : AV} (hs : IsS A src l) :
    ∀ (k i : Nat) (Z : List AO), i + k = l.length → ∃ Z', run tbl (.op [.tmp 4]) [.blk 0, .seq (f52r8.seq .ret)] (.loop [7, 1, 0, 8] f52b7) [(7, .int .i64 l.length), (1, .fn f caps), (0, src), (8, .int .i64 i)] (A ++ Z) = some (.int .i64 (ixG p (l.drop i) i), A ++ (Z ++ Z'))
  | 0, i, Z, h => by
    refine ⟨[], ?_⟩
    rw [run_loopD _ _ f52b7_eq]
    simp [show ¬ i < l.length by omega, show l.drop i = [] from List.drop_eq_nil_of_le (by omega), ixG]
  | k + 1, i, Z, h => by
    have hi : i < l.length := by omega
    obtain ⟨Z1, h1⟩ := hp l[i] Z
    rw [ixG_step hi]
    cases e : p l[i]
    · obtain ⟨Z', ih⟩ := t52x hl hp hs k (i + 1) (Z ++ Z1) (by omega)
      refine ⟨Z1 ++ Z', ?_⟩
      rw [Int.natCast_succ] at ih
      rw [e] at h1
      rw [run_loopD _ _ f52b7_eq]
      cases hs with
      | sl => simp [hi, h1, wrapS i (by omega), ih, -List.append_assoc] <;> simp
      | rf s g l hs => simp [hi, getL hs, h1, wrapS i (by omega), ih, -List.append_assoc] <;> simp
    · refine ⟨Z1, ?_⟩
      rw [e] at h1
      rw [run_loopD _ _ f52b7_eq]
      cases hs with
      | sl => simp [hi, h1]
      | rf s g l hs => simp [hi, getL hs, h1]
theorem cv52x {l : List Px} (hl : l.length ≤ 1000000) {f : Nat} {caps : List AV} {p : Px → Bool} {A : List AO} (hp : Looks f caps p A) {src : AV} (hs : IsS A src l) (Z : List AO) :
    ∃ Z', callV tbl 52 [src, .fn f caps] (A ++ Z) = some (.int .i64 (ixG p l 0), A ++ (Z ++ Z')) := by
  obtain ⟨Z', h⟩ := t52x hl hp hs l.length 0 Z (by omega)
  refine ⟨Z', ?_⟩
  rw [callV_run tbl (f := 52) (fn := f52) rfl _ _ rfl]
  simp at h
  simp [f52, f52body, hs.ln, h]
theorem cv63x {l : List Px} (hl : l.length ≤ 1000000) {f : Nat} {caps : List AV} {p : Px → Bool} {A : List AO} (hp : Looks f caps p A) {src : AV} (hs : IsS A src l) (Z : List AO) :
    ∃ Z', callV tbl 63 [src, .fn f caps] (A ++ Z) = some (.bool (l.any p), A ++ (Z ++ Z')) := by
  obtain ⟨Z', h⟩ := cv52x hl hp hs Z
  refine ⟨Z', ?_⟩
  rw [callV_run tbl (f := 63) (fn := f63) rfl _ _ rfl]
  simp [f63, f63body, h, ixG_any]
theorem c70x (x : Px) : callW tbl 70 [encX x] = some (.bool (decide (x.r.state ≠ 3)), []) := by
  rw [call_run tbl (f := 70) (fn := f70) rfl _ rfl]
  by_cases h : x.r.state = 3
  · simp [f70, f70body, h]
  · simp [f70, f70body, h]
abbrev liveX (n : Int) (x : Px) : Bool := decide (x.r.pid = n) && decide (x.r.state ≠ 3)
theorem cv87 (n : Int) : Looks 87 [.bptr 0 0] (liveX n) [.box 3 1 (.int .i64 n)] := by
  intro x Z
  refine ⟨[.box 30 13 (encX x)], ?_⟩
  rw [callV_run tbl (f := 87) (fn := f87) rfl _ _ rfl]
  have h := c70x x
  by_cases h1 : x.r.pid = n
  · simp [f87, f87body, eq_true h1, h]
  · simp [f87, f87body, h1]
theorem c47x {l : List Px} (hl : l.length ≤ 1000000) (n : Int) : callW tbl 47 [pX l, .int .i64 n] = some (.int .i64 (ixG (liveX n) l 0), []) := by
  rw [call_run tbl (f := 47) (fn := f47) rfl _ rfl]
  obtain ⟨Z', h⟩ := cv52x hl (cv87 n) (.sl l) []
  simp at h
  simp [f47, f47body, h]
/-- what 'selected' keeps -/
theorem t48x {l : List Px} (hl : l.length ≤ 1000000) {f : Nat} {caps : List AV} {p : Px → Bool} {A : List AO} (hp : Looks f caps p A) {src : AV} (hs : IsS A src l) :
    ∀ (k i g : Nat) (Z : List AO), i + k = l.length → ∃ g' Z', run tbl (.op [.tmp 4]) [.blk 0, .seq (f48r9.seq .ret)] (.loop [5, 10, 9, 8, 1] f48b8) [(5, .ref A.length g 0 ((l.take i).filter p).length), (10, .int .i64 i), (9, .int .i64 l.length), (8, src), (1, .fn f caps)] (A ++ .row 30 13 g (((l.take i).filter p).map encX) :: Z) = some (.ref A.length g' 0 (l.filter p).length, A ++ .row 30 13 g' ((l.filter p).map encX) :: Z')
  | 0, i, g, Z, h => by
    refine ⟨g, Z, ?_⟩
    obtain rfl : i = l.length := by omega
    rw [run_loopD _ _ f48b8_eq]
    simp
  | k + 1, i, g, Z, h => by
    have hi : i < l.length := by omega
    have hT : ((l.take i).filter p).length ≤ 1073741823 := by
      have := List.length_filter_le p (l.take i)
      simp at this; omega
    obtain ⟨Z1, h1⟩ := hp l[i] (.row 30 13 g (((l.take i).filter p).map encX) :: (Z ++ [.box 30 13 (encX l[i])]))
    have hs1 : (l.take (i + 1)).filter p = (l.take i).filter p ++ (if p l[i] = true then [l[i]] else []) := by
      rw [List.take_succ_eq_append_getElem hi, List.filter_append]
      cases e : p l[i] <;> simp [e]
    cases e : p l[i]
    · obtain ⟨g', Z', ih⟩ := t48x hl hp hs k (i + 1) g (Z ++ (.box 30 13 (encX l[i]) :: Z1)) (by omega)
      refine ⟨g', Z', ?_⟩
      rw [hs1, e, if_neg (by simp), List.append_nil] at ih
      rw [Int.natCast_succ] at ih
      rw [e] at h1
      generalize (l.take i).filter p = T at h1 ih hT ⊢
      generalize l.filter p = R at ih ⊢
      simp only [List.append_assoc, List.cons_append, List.nil_append] at h1 ih
      rw [run_loopD _ _ f48b8_eq]
      cases hs with
      | sl => simp [hi, h1, wrapS i (by omega), ih]
      | rf s g l hs => simp [hi, getL hs, h1, wrapS i (by omega), ih]
    · obtain ⟨g', Z', ih⟩ := t48x hl hp hs k (i + 1) (g + 1) (Z ++ (.box 30 13 (encX l[i]) :: Z1)) (by omega)
      refine ⟨g', Z', ?_⟩
      rw [hs1, e, if_pos rfl] at ih
      rw [Int.natCast_succ] at ih
      rw [e] at h1
      generalize (l.take i).filter p = T at h1 ih hT ⊢
      generalize l.filter p = R at ih ⊢
      simp only [List.append_assoc, List.cons_append, List.nil_append] at h1 ih
      simp at ih
      rw [run_loopD _ _ f48b8_eq]
      cases hs with
      | sl => simp [hi, h1, wrapS i (by omega), ih, hT]
      | rf s g l hs => simp [hi, getL hs, h1, wrapS i (by omega), ih, hT]
theorem cv48x {l : List Px} (hl : l.length ≤ 1000000) {f : Nat} {caps : List AV} {p : Px → Bool} {A : List AO} (hp : ∀ B, Looks f caps p (A ++ B)) {src : AV} (hs : IsS A src l) (Z : List AO) :
    ∃ g' Z', callV tbl 48 [src, .fn f caps] (A ++ Z) = some (.ref (A.length + (Z.length + 1)) g' 0 (l.filter p).length, A ++ (Z ++ .row 30 13 0 [] :: .row 30 13 g' ((l.filter p).map encX) :: Z')) := by
  have hp' : Looks f caps p (A ++ (Z ++ [.row 30 13 0 []])) := hp _
  obtain ⟨g', Z', h⟩ := t48x hl hp' hs.mono l.length 0 0 [] (by omega)
  refine ⟨g', Z', ?_⟩
  rw [callV_run tbl (f := 48) (fn := f48) rfl _ _ rfl]
  simp at h
  simp [f48, f48body, hs.ln, h]
end Go.Proofs.YtgppkhbidcgnlaaDoor
