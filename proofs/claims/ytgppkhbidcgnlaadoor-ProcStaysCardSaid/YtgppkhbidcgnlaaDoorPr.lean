/- Processes: the table of functions, with slices.Clone by contracts; the package's table; the chapter's examples. No condition. -/
import Derived.Test.YtgppkhbidcgnlaaDoorTbl
import Derived.Test.YtgppkhbidcgnlaaDoorIns2
import Derived.Test.YtgppkhbidcgnlaaDoorPi27
import Derived.Test.YtgppkhbidcgnlaaDoorRows
namespace Go.Proofs.YtgppkhbidcgnlaaDoor
open Go.PI
set_option maxRecDepth 100000
set_option maxHeartbeats 8000000
set_option linter.unusedSimpArgs false
theorem mixed : Tryd.prog.follows .mixedOrders = true := by kernel_rfl
theorem callee40 : Callee' Tryd.prog 40 := by
  obtain ⟨c, hc⟩ := Option.isSome_iff_exists.1 (show Tryd.f40.body.isSome = true by kernel_rfl)
  exact ⟨_, c, Tryd.func40, hc, by kernel_rfl⟩
theorem callee77 : Callee' Tryd.prog 77 := by
  obtain ⟨c, hc⟩ := Option.isSome_iff_exists.1 (show Tryd.f77.body.isSome = true by kernel_rfl)
  exact ⟨_, c, Tryd.func77, hc, by kernel_rfl⟩
theorem callee88 : Callee' Tryd.prog 88 := by
  obtain ⟨c, hc⟩ := Option.isSome_iff_exists.1 (show Tryd.f88.body.isSome = true by kernel_rfl)
  exact ⟨_, c, Tryd.func88, hc, by kernel_rfl⟩
/-- with Clone's own text -/
def tbl0 : TB := ⟨tblF, fun _ _ => none, fun _ _ _ => none⟩
theorem tbl0_ok : TBok Tryd.prog cfg tbl0 := ⟨tbl_ok, (by intro _ _ _ _ _ h; cases h), (by intro _ _ _ _ _ _ h; cases h)⟩
def cloneX (T s : Nat) : AV → Option (AV × List AO)
  | .e0 => some (.ref 0 0 0 0, [.row T s 0 []])
  | .sl s' es => if s' = s ∧ es.length ≤ maxRow then some (.ref 0 0 0 es.length, [.row T s 0 es]) else none
  | _ => none
theorem clone_nils40 : callW tbl0 40 [.nils] = some (.ref 0 0 0 0, [.row 66 3 0 []]) := callW_of tbl0 (k := 50) (by kernel_rfl)
theorem clone_en40 : callW tbl0 40 [.en] = some (.ref 0 0 0 0, [.row 66 3 0 []]) := callW_of tbl0 (k := 50) (by kernel_rfl)
theorem clone_sl40 (e : AV) (es : List AV) (h : es.length + 1 ≤ maxRow) : callW tbl0 40 [.sl 3 (e :: es)] = some (.ref 0 0 0 (es.length + 1), [.row 66 3 0 (e :: es)]) := by
  rw [call_run tbl0 (f := 40) (fn := f40) rfl _ rfl]
  simp [f40, f40body, show es.length ≤ 1073741823 by simpa using h]
theorem clone_nils77 : callW tbl0 77 [.nils] = some (.ref 0 0 0 0, [.row 3 1 0 []]) := callW_of tbl0 (k := 50) (by kernel_rfl)
theorem clone_en77 : callW tbl0 77 [.en] = some (.ref 0 0 0 0, [.row 3 1 0 []]) := callW_of tbl0 (k := 50) (by kernel_rfl)
theorem clone_sl77 (e : AV) (es : List AV) (h : es.length + 1 ≤ maxRow) : callW tbl0 77 [.sl 1 (e :: es)] = some (.ref 0 0 0 (es.length + 1), [.row 3 1 0 (e :: es)]) := by
  rw [call_run tbl0 (f := 77) (fn := f77) rfl _ rfl]
  simp [f77, f77body, show es.length ≤ 1073741823 by simpa using h]
theorem clone_nils88 : callW tbl0 88 [.nils] = some (.ref 0 0 0 0, [.row 30 13 0 []]) := callW_of tbl0 (k := 50) (by kernel_rfl)
theorem clone_en88 : callW tbl0 88 [.en] = some (.ref 0 0 0 0, [.row 30 13 0 []]) := callW_of tbl0 (k := 50) (by kernel_rfl)
theorem clone_sl88 (e : AV) (es : List AV) (h : es.length + 1 ≤ maxRow) : callW tbl0 88 [.sl 13 (e :: es)] = some (.ref 0 0 0 (es.length + 1), [.row 30 13 0 (e :: es)]) := by
  rw [call_run tbl0 (f := 88) (fn := f88) rfl _ rfl]
  simp [f88, f88body, show es.length ≤ 1073741823 by simpa using h]
theorem clone_ok {f T s : Nat} (h1 : callW tbl0 f [.nils] = some (.ref 0 0 0 0, [.row T s 0 []])) (h2 : callW tbl0 f [.en] = some (.ref 0 0 0 0, [.row T s 0 []])) (h3 : ∀ (e : AV) (es : List AV), es.length + 1 ≤ maxRow → callW tbl0 f [.sl s (e :: es)] = some (.ref 0 0 0 (es.length + 1), [.row T s 0 (e :: es)]))
    (x res : AV) (rows : List AO) (h : cloneX T s x = some (res, rows)) : FnOk cfg Tryd.prog f [x] res rows := by
  unfold cloneX at h
  split at h
  · cases h
    exact FnOk.empty (.inl rfl) (callW_sound mixed tbl0_ok h1) (callW_sound mixed tbl0_ok h2)
  · rename_i s' es
    split at h
    · rename_i hl
      cases h
      obtain ⟨rfl, hl⟩ := hl
      cases es with
      | nil => exact FnOk.empty (.inr ⟨s', rfl⟩) (callW_sound mixed tbl0_ok h1) (callW_sound mixed tbl0_ok h2)
      | cons e es => exact callW_sound mixed tbl0_ok (h3 e es (by simpa using hl))
    · cases h
  · cases h
theorem callee68 : Callee' Tryd.prog 68 := by
  obtain ⟨c, hc⟩ := Option.isSome_iff_exists.1 (show Tryd.f68.body.isSome = true by kernel_rfl)
  exact ⟨_, c, Tryd.func68, hc, by kernel_rfl⟩
theorem getL {α : Type} {A Z : List α} {s : Nat} {x : α} (h : A[s]? = some x) : (A ++ Z)[s]? = some x := by
  have hs : s < A.length := by
    rcases Nat.lt_or_ge s A.length with h1 | h1
    · exact h1
    · rw [List.getElem?_eq_none h1] at h; cases h
  rw [List.getElem?_append_left hs]; exact h
theorem setL {α : Type} {A Z : List α} {s : Nat} {x y : α} (h : A[s]? = some x) : (A ++ Z).set s y = A.set s y ++ Z := by
  have hs : s < A.length := by
    rcases Nat.lt_or_ge s A.length with h1 | h1
    · exact h1
    · rw [List.getElem?_eq_none h1] at h; cases h
  rw [List.set_append_left _ _ hs]
/-- Insert at the end -/
def insE (H : List AO) : List AV → Option (AV × List AO)
  | [.ref id g 0 n, .int .i64 i, .sl 13 [x]] => match H[id]? with
    | some (.row 30 13 g' es) => if g' = g ∧ n = es.length ∧ i = n ∧ n ≤ 1000000 then some (.ref id (g + 1) 0 (n + 1), H.set id (.row 30 13 (g + 1) (es ++ [x])) ++ [.row 30 13 0 []]) else none
    | _ => none
  | _ => none
theorem insE_ok {args : List AV} {H H' : List AO} {res : AV} (h : insE H args = some (res, H')) : FnOkO cfg Tryd.prog 68 args H res H' := by
  unfold insE at h
  split at h
  case h_2 => cases h
  rename_i id g n i x
  split at h
  case h_2 => cases h
  rename_i g' es hob
  split at h
  case isFalse => cases h
  rename_i hc
  obtain ⟨rfl, rfl, rfl, hbig⟩ := hc
  simp only [Option.some.injEq, Prod.mk.injEq] at h
  obtain ⟨rfl, rfl⟩ := h
  refine callV_sound mixed tbl0_ok ?_
  rw [callV_run tbl0 (f := 68) (fn := f68) rfl _ _ rfl]
  have g1 := getL (Z := [.row 30 13 0 []]) hob
  have g2 := fun y => setL (Z := [.row 30 13 0 []]) (y := y) hob
  simp [f68, f68body, g1, g2, show es.length ≤ 1073741823 by omega]
def insY (H : List AO) (args : List AV) : Option (AV × List AO) := match insX H args with
  | some r => some r
  | none => insE H args
theorem insY_ok {args : List AV} {H H' : List AO} {res : AV} (h : insY H args = some (res, H')) : FnOkO cfg Tryd.prog 68 args H res H' := by
  unfold insY at h
  split at h
  · rename_i r hr
    injection h with h
    subst h
    exact ins_ok hr
  · exact insE_ok h
def tbl : TB := ⟨fun f => if f = 40 ∨ f = 77 ∨ f = 88 ∨ f = 68 then none else tblF f, fun f args => match f, args with
  | 40, [x] => cloneX 66 3 x
  | 77, [x] => cloneX 3 1 x
  | 88, [x] => cloneX 30 13 x
  | _, _ => none, fun f args H => match f with
  | 68 => insY H args
  | _ => none⟩
theorem tblOk : TBok Tryd.prog cfg tbl := by
  refine ⟨fun f fn h => ?_, fun f args res rows _ h => ?_, fun f args H res H' _ h => ?_⟩
  · by_cases hf : f = 40 ∨ f = 77 ∨ f = 88 ∨ f = 68
    · simp [tbl, hf] at h
    · simp [tbl, hf] at h
      exact tbl_ok f fn h
  · simp only [tbl] at h
    split at h
    · exact ⟨clone_ok clone_nils40 clone_en40 clone_sl40 _ _ _ h, callee40⟩
    · exact ⟨clone_ok clone_nils77 clone_en77 clone_sl77 _ _ _ h, callee77⟩
    · exact ⟨clone_ok clone_nils88 clone_en88 clone_sl88 _ _ _ h, callee88⟩
    · cases h
  · simp only [tbl] at h
    split at h
    · exact ⟨insY_ok h, callee68⟩
    · cases h
theorem c11 : callW tbl 11 [] = some (.bool true, []) := callW_of tbl (k := 800) (by kernel_rfl)
end Go.Proofs.YtgppkhbidcgnlaaDoor
