/- slices.Clone of descriptions, whatever the slice: a new row of the same elements. No condition. -/
import Derived.Test.YtiogndooaihgkaaTbl
import Derived.Test.YtiogndooaihgkaaPi26
namespace Go.Proofs.Ytiogndooaihgkaa
open Go.PI
set_option maxRecDepth 100000
set_option maxHeartbeats 8000000
/-- with Clone's own text -/
def tbl0 : TB := ⟨tblF, fun _ _ => none⟩
theorem tbl0_ok : TBok Try.prog cfg tbl0 := ⟨tbl_ok, by intro _ _ _ _ _ h; cases h⟩
theorem mixed : Try.prog.follows .mixedOrders = true := by kernel_rfl
def cloneX : AV → Option (AV × List AO)
  | .e0 => some (.ref 0 0 0 0, [.row 37 6 0 []])
  | .sl 6 es => if es.length ≤ maxRow then some (.ref 0 0 0 es.length, [.row 37 6 0 es]) else none
  | _ => none
theorem clone_nils : callW tbl0 36 [.nils] = some (.ref 0 0 0 0, [.row 37 6 0 []]) := callW_of tbl0 (k := 50) (by kernel_rfl)
theorem clone_en : callW tbl0 36 [.en] = some (.ref 0 0 0 0, [.row 37 6 0 []]) := callW_of tbl0 (k := 50) (by kernel_rfl)
theorem clone_sl (e : AV) (es : List AV) (h : es.length + 1 ≤ maxRow) : callW tbl0 36 [.sl 6 (e :: es)] = some (.ref 0 0 0 (es.length + 1), [.row 37 6 0 (e :: es)]) := by
  rw [call_run tbl0 (f := 36) (fn := f36) rfl _ rfl]
  simp [f36, f36body]
  simpa using h
theorem callee36 : Callee' Try.prog 36 := by
  obtain ⟨c, hc⟩ := Option.isSome_iff_exists.1 (show Try.f36.body.isSome = true by kernel_rfl)
  exact ⟨_, c, Try.func36, hc, by kernel_rfl⟩
theorem clone_ok (x res : AV) (rows : List AO) (h : cloneX x = some (res, rows)) : FnOk cfg Try.prog 36 [x] res rows := by
  unfold cloneX at h
  split at h
  · cases h
    exact FnOk.empty (.inl rfl) (callW_sound mixed tbl0_ok clone_nils) (callW_sound mixed tbl0_ok clone_en)
  · rename_i es
    split at h
    · rename_i hl
      cases h
      cases es with
      | nil => exact FnOk.empty (.inr ⟨6, rfl⟩) (callW_sound mixed tbl0_ok clone_nils) (callW_sound mixed tbl0_ok clone_en)
      | cons e es => exact callW_sound mixed tbl0_ok (clone_sl e es (by simpa using hl))
    · cases h
  · cases h
/-- the table, with Clone as a law of its own -/
def tbl : TB := ⟨fun f => if f = 36 then none else tblF f, fun f args => match f, args with
  | 36, [x] => cloneX x
  | _, _ => none⟩
theorem tblOk : TBok Try.prog cfg tbl := by
  refine ⟨fun f fn h => ?_, fun f args res rows _ h => ?_⟩
  · by_cases hf : f = 36
    · simp [tbl, hf] at h
    · simp [tbl, hf] at h
      exact tbl_ok f fn h
  · simp only [tbl] at h
    split at h
    · exact ⟨clone_ok _ _ _ h, callee36⟩
    · cases h
theorem globOk (F : Nat → Prop) (w : World) : Glob cfg F w := by intro g e h; cases h
theorem c36 (es : List AV) (h : es.length ≤ maxRow) : callW tbl 36 [.sl 6 es] = some (.ref 0 0 0 es.length, [.row 37 6 0 es]) := by
  rw [call_ext tbl rfl]
  show (if es.length ≤ maxRow then _ else none) = _
  rw [if_pos h]
end Go.Proofs.Ytiogndooaihgkaa
