/- Statuses: what Kind, Shell and Describe give, on both sides; strconv.Itoa by the library's contract. No condition. -/
import Derived.Test.YtgcidbdffjgemaaDoorTbl
import Derived.Test.YtgcidbdffjgemaaDoorPi27
import Derived.Test.YtgcidbdffjgemaaDoorShelf
import Derived.Test.YtgcidbdffjgemaaDoorRows
import Derived.Lib.AppendIntMem
namespace Go.Proofs.YtgcidbdffjgemaaDoor
open Go.PI
set_option maxRecDepth 100000
set_option maxHeartbeats 8000000
set_option linter.unusedSimpArgs false
theorem mixed : Tryd.prog.follows .mixedOrders = true := by kernel_rfl
def itoaX : AV → Option (AV × List AO)
  | .int .i64 n => if -9223372036854775808 ≤ n ∧ n ≤ 9223372036854775807 then some (.str (Lib.itoa n), []) else none
  | _ => none
theorem callee26 : Callee' Tryd.prog 26 := by
  obtain ⟨c, hc⟩ := Option.isSome_iff_exists.1 (show Tryd.f26.body.isSome = true by kernel_rfl)
  exact ⟨_, c, Tryd.func26, hc, by kernel_rfl⟩
theorem itoa_ok (x res : AV) (rows : List AO) (h : itoaX x = some (res, rows)) : FnOk cfg Tryd.prog 26 [x] res rows := by
  unfold itoaX at h
  split at h
  · rename_i n
    split at h
    · rename_i hn
      cases h
      refine FnOk.of_plain fun F w vs hF hg hl hr => ?_
      match vs, hl with
      | [v], _ =>
        have hv := hr 0 _ v rfl rfl
        cases hv
        refine (Tryd.strconv_Itoa n hn.1 hn.2 w (tab_of_glob (C := cfg) (F := F) (g := 1) hg (by kernel_rfl) (by kernel_rfl))).mono ?_
        rintro e w' ⟨rfl, k, os, rfl⟩
        exact ⟨_, rfl, .str _, Lib.below_grow _ w (Nat.le_refl _) k os⟩
    · cases h
  · cases h
def tbl : TB := ⟨tblF, fun f args => match f, args with
  | 26, [x] => itoaX x
  | _, _ => none⟩
theorem tblOk : TBok Tryd.prog cfg tbl := by
  refine ⟨tbl_ok, fun f args res rows _ h => ?_⟩
  simp only [tbl] at h
  split at h
  · exact ⟨itoa_ok _ _ _ h, callee26⟩
  · cases h
/-- what the package's tables hold -/
theorem globOk {W : World} (h : laidMet Tryd.prog Rows.statusMakesRow.laid W) : Glob cfg (fun b => b < W.heap.size) W := by
  intro g e hg
  unfold cfg gl at hg
  simp only at hg
  split at hg
  · cases hg; exact arr_glob (t := 48) (e := 5) (n := 32) 0 (by rfl) (by kernel_rfl) (by kernel_rfl) (by kernel_rfl) (by kernel_rfl) (by kernel_rfl) (.inl ⟨.u8, by kernel_rfl⟩) (by kernel_rfl) h
  · cases hg; exact arr_glob (t := 49) (e := 5) (n := 64) 1 (by rfl) (by kernel_rfl) (by kernel_rfl) (by kernel_rfl) (by kernel_rfl) (by kernel_rfl) (.inl ⟨.u8, by kernel_rfl⟩) (by kernel_rfl) h
  · cases hg; exact arr_glob (t := 42) (e := 35) (n := 20) 2 (by rfl) (by kernel_rfl) (by kernel_rfl) (by kernel_rfl) (by kernel_rfl) (by kernel_rfl) (.inl ⟨.u64, by kernel_rfl⟩) (by kernel_rfl) h
  · cases hg; exact arr_glob (t := 32) (e := 9) (n := 21) 3 (by rfl) (by kernel_rfl) (by kernel_rfl) (by kernel_rfl) (by kernel_rfl) (by kernel_rfl) (.inr (by kernel_rfl)) (by kernel_rfl) h
  · cases hg
theorem c26 (n : Int) (h1 : -9223372036854775808 ≤ n) (h2 : n ≤ 9223372036854775807) : callW tbl 26 [.int .i64 n] = some (.str (Lib.itoa n), []) := by
  rw [call_ext tbl rfl]
  show (if -9223372036854775808 ≤ n ∧ n ≤ 9223372036854775807 then _ else none) = _
  rw [if_pos ⟨h1, h2⟩]
theorem c16 : callW tbl 16 [] = some (.bool true, []) := callW_of tbl (k := 500) (by kernel_rfl)
end Go.Proofs.YtgcidbdffjgemaaDoor
