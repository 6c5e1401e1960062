/- Signals: the table of functions, with strconv.Itoa, slices.Clone and slices.Insert by contracts; the package's table. No condition. -/
import Derived.Test.YtlkfejigeeddaaaDoorTbl
import Derived.Test.YtlkfejigeeddaaaDoorPi28
import Derived.Test.YtlkfejigeeddaaaDoorShelf
import Derived.Test.YtlkfejigeeddaaaDoorRows
import Derived.Lib.AppendIntMem
namespace Go.Proofs.YtlkfejigeeddaaaDoor
open Go.PI
set_option maxRecDepth 100000
set_option maxHeartbeats 8000000
set_option linter.unusedSimpArgs false
theorem mixed : Tryd.prog.follows .mixedOrders = true := by kernel_rfl
def itoaX : AV → Option (AV × List AO)
  | .int .i64 n => if -9223372036854775808 ≤ n ∧ n ≤ 9223372036854775807 then some (.str (Lib.itoa n), []) else none
  | _ => none
theorem callee33 : Callee' Tryd.prog 33 := by
  obtain ⟨c, hc⟩ := Option.isSome_iff_exists.1 (show Tryd.f33.body.isSome = true by kernel_rfl)
  exact ⟨_, c, Tryd.func33, hc, by kernel_rfl⟩
theorem callee52 : Callee' Tryd.prog 52 := by
  obtain ⟨c, hc⟩ := Option.isSome_iff_exists.1 (show Tryd.f52.body.isSome = true by kernel_rfl)
  exact ⟨_, c, Tryd.func52, hc, by kernel_rfl⟩
theorem callee55 : Callee' Tryd.prog 55 := by
  obtain ⟨c, hc⟩ := Option.isSome_iff_exists.1 (show Tryd.f55.body.isSome = true by kernel_rfl)
  exact ⟨_, c, Tryd.func55, hc, by kernel_rfl⟩
theorem itoa_ok (x res : AV) (rows : List AO) (h : itoaX x = some (res, rows)) : FnOk cfg Tryd.prog 33 [x] res rows := by
  unfold itoaX at h
  split at h
  · rename_i n
    split at h
    · rename_i hn
      cases h
      refine FnOk.of_plain fun F w vs hF hg hl hr => ?_
      match vs, hl with
      | [v], _ =>
        have hv := hr 0 _ v rfl rfl
        cases hv
        refine (Tryd.strconv_Itoa n hn.1 hn.2 w (tab_of_glob (C := cfg) (F := F) (g := 1) hg (by kernel_rfl) (by kernel_rfl))).mono ?_
        rintro e w' ⟨rfl, k, os, rfl⟩
        exact ⟨_, rfl, .str _, Lib.below_grow _ w (Nat.le_refl _) k os⟩
    · cases h
  · cases h
/-- with Clone's own text -/
def tbl0 : TB := ⟨tblF, fun _ _ => none, fun _ _ _ => none⟩
theorem tbl0_ok : TBok Tryd.prog cfg tbl0 := ⟨tbl_ok, (by intro _ _ _ _ _ h; cases h), (by intro _ _ _ _ _ _ h; cases h)⟩
def cloneX : AV → Option (AV × List AO)
  | .e0 => some (.ref 0 0 0 0, [.row 3 1 0 []])
  | .sl 1 es => if es.length ≤ maxRow then some (.ref 0 0 0 es.length, [.row 3 1 0 es]) else none
  | _ => none
theorem clone_nils : callW tbl0 52 [.nils] = some (.ref 0 0 0 0, [.row 3 1 0 []]) := callW_of tbl0 (k := 50) (by kernel_rfl)
theorem clone_en : callW tbl0 52 [.en] = some (.ref 0 0 0 0, [.row 3 1 0 []]) := callW_of tbl0 (k := 50) (by kernel_rfl)
theorem clone_sl (e : AV) (es : List AV) (h : es.length + 1 ≤ maxRow) : callW tbl0 52 [.sl 1 (e :: es)] = some (.ref 0 0 0 (es.length + 1), [.row 3 1 0 (e :: es)]) := by
  rw [call_run tbl0 (f := 52) (fn := f52) rfl _ rfl]
  simp [f52, f52body]
  simpa using h
theorem clone_ok (x res : AV) (rows : List AO) (h : cloneX x = some (res, rows)) : FnOk cfg Tryd.prog 52 [x] res rows := by
  unfold cloneX at h
  split at h
  · cases h
    exact FnOk.empty (.inl rfl) (callW_sound mixed tbl0_ok clone_nils) (callW_sound mixed tbl0_ok clone_en)
  · rename_i es
    split at h
    · rename_i hl
      cases h
      cases es with
      | nil => exact FnOk.empty (.inr ⟨1, rfl⟩) (callW_sound mixed tbl0_ok clone_nils) (callW_sound mixed tbl0_ok clone_en)
      | cons e es => exact callW_sound mixed tbl0_ok (clone_sl e es (by simpa using hl))
    · cases h
  · cases h
def tbl : TB := ⟨fun f => if f = 52 then none else tblF f, fun f args => match f, args with
  | 33, [x] => itoaX x
  | 52, [x] => cloneX x
  | _, _ => none, fun f args H => match f with
  | 55 => insX 3 H args
  | _ => none⟩
theorem tblOk : TBok Tryd.prog cfg tbl := by
  refine ⟨fun f fn h => ?_, fun f args res rows _ h => ?_, fun f args H res H' _ h => ?_⟩
  · by_cases hf : f = 52
    · simp [tbl, hf] at h
    · simp [tbl, hf] at h
      exact tbl_ok f fn h
  · simp only [tbl] at h
    split at h
    · exact ⟨itoa_ok _ _ _ h, callee33⟩
    · exact ⟨clone_ok _ _ _ h, callee52⟩
    · cases h
  · simp only [tbl] at h
    split at h
    · exact ⟨ins_ok (ρL := Tryd.lays2n21_ren) Tryd.lays2n21 h, callee55⟩
    · cases h
/-- what the package's tables hold -/
theorem globOk {W : World} (h : laidMet Tryd.prog Rows.signalNamesRow.laid W) : Glob cfg (fun b => b < W.heap.size) W := by
  intro g e hg
  unfold cfg gl at hg
  simp only at hg
  split at hg
  · cases hg; exact arr_glob (t := 83) (e := 5) (n := 32) 0 (by rfl) (by kernel_rfl) (by kernel_rfl) (by kernel_rfl) (by kernel_rfl) (by kernel_rfl) (.inl ⟨.u8, by kernel_rfl⟩) (by kernel_rfl) h
  · cases hg; exact arr_glob (t := 84) (e := 5) (n := 64) 1 (by rfl) (by kernel_rfl) (by kernel_rfl) (by kernel_rfl) (by kernel_rfl) (by kernel_rfl) (.inl ⟨.u8, by kernel_rfl⟩) (by kernel_rfl) h
  · cases hg; exact arr_glob (t := 76) (e := 69) (n := 20) 2 (by rfl) (by kernel_rfl) (by kernel_rfl) (by kernel_rfl) (by kernel_rfl) (by kernel_rfl) (.inl ⟨.u64, by kernel_rfl⟩) (by kernel_rfl) h
  · cases hg; exact arr_glob (t := 53) (e := 9) (n := 21) 3 (by rfl) (by kernel_rfl) (by kernel_rfl) (by kernel_rfl) (by kernel_rfl) (by kernel_rfl) (.inr (by kernel_rfl)) (by kernel_rfl) h
  · cases hg
theorem c33 (n : Int) (h1 : -9223372036854775808 ≤ n) (h2 : n ≤ 9223372036854775807) : callW tbl 33 [.int .i64 n] = some (.str (Lib.itoa n), []) := by
  rw [call_ext tbl rfl]
  show (if -9223372036854775808 ≤ n ∧ n ≤ 9223372036854775807 then _ else none) = _
  rw [if_pos ⟨h1, h2⟩]
theorem c10 : callW tbl 10 [] = some (.bool true, []) := callW_of tbl (k := 800) (by kernel_rfl)
end Go.Proofs.YtlkfejigeeddaaaDoor
