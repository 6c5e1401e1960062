/- 'RedirectOnceSaid': for every input the law returns true, and the input reads as it did. No condition. -/
import Derived.Test.YtddcoboldcenkaaRows
import Derived.Test.YtddcoboldcenkaaOnce
import Derived.WalkKit
import Derived.ProofKit
import Derived.OpenShut
namespace Go.Proofs.Ytddcoboldcenkaa.redirectOnce
open Go.ChangeShapes Go.WideShapes Go.ChangeAt Go.RowKit Go.PI

theorem own : ownKnob Try.prog.godebug = none := by kernel_rfl

theorem tblOk : TBok Try.prog cfg tbl := ⟨tbl_ok, by intro _ _ _ _ _ h; cases h⟩
theorem globOk (F : Nat → Prop) (w : World) : Glob cfg F w := by intro g e h; cases h

set_option maxRecDepth 100000 in
theorem ran (xs : List AV) (hl : xs.length = Try.f6.params.toList.length) (h : ∀ (j : Nat) (t : TypeId) (c : AV), Try.f6.params.toList[j]? = some t → xs[j]? = some c → ArgTy Try.prog 8 t c) :
    callW tbl 6 xs = some (.bool true, []) := by
  rw [Try.params6] at hl h
  match xs, hl, h with
  | [a0], _, h =>
    have k0 := (h 0 _ a0 rfl rfl).one (q := .sl true [.int .i64, .int .i64, .int .i64, .int .i64, .str, .str]) (by kernel_rfl) (by kernel_rfl)
    obtain ⟨x0, rfl, b0⟩ := mvs k0
    exact c6 x0

set_option maxRecDepth 100000 in
theorem lifted (os : Os) (started : os.Started) (H : Type) (enc : TypeId × Value → H) :
    ReturnsInHanded {} Try.checked os 6 .any (Rows.redirectOnceSpec.pre6 enc Try.prog Try.f6 Rows.redirectOnceRow.domain false) (Rows.redirectOnceSpec.post enc Try.prog Try.f6 false true false false) := by
  refine returnsInHanded_of_change (C := Try.checked) own started (by kernel_rfl) Try.func6
    (ChangeSpec.witness6 (enc := enc) (C := Try.checked) false ⟨#[], #[.slice none 0 0], []⟩ 8 (by kernel_rfl) (by kernel_rfl) (by kernel_rfl) (by kernel_rfl)) ?_
  intro W base args ds gs before hval0 hW hcnd _
  have hval : ∀ (j : Nat) t v, Try.f6.params[j]? = some t → args[j]? = some v → Value.okWide Try.prog W .any base t v := hval0
  have hd : (Rows.redirectOnceSpec.fn H (ds ++ gs)).args = ds ∧ (Rows.redirectOnceSpec.fn H (ds ++ gs)).results = [.lit (.bool true)] ∧ (Rows.redirectOnceSpec.fn H (ds ++ gs)).vars = [] := by
    obtain ⟨p, q, hA0, hV, rfl, hfz, hnd⟩ := id hW
    have hA : DataW.TrodAll enc Try.prog W 0 (fun _ => true) true Try.f6.params.toList args.toList ds p := hA0
    rw [Try.params6] at hA
    obtain ⟨v0, vs0, d0, ds0, p0, q0, hargs, rfl, rfl, h0, r0⟩ := trodAll_cons hA
    obtain ⟨rfl, rfl, rfl⟩ := trodAll_nil r0
    obtain ⟨rfl, rfl⟩ := trodVars_none hV
    exact ⟨rfl, rfl, rfl⟩
  exact law_calls (P := Try.prog) (fn := Try.f6) (s := Rows.redirectOnceSpec) 8 (by kernel_rfl) tblOk (by kernel_rfl) (by rw [Try.params6]; intro t ht; simp only [List.mem_cons, List.not_mem_nil, or_false] at ht; rcases ht with rfl <;> exact ⟨by kernel_rfl, of_decide_eq_true (by kernel_rfl)⟩) rfl (by kernel_rfl) Try.underlying4
    (by rw [Try.params6]; intro t ht; simp only [List.mem_cons, List.not_mem_nil, or_false] at ht; rcases ht with rfl <;> kernel_rfl) ran (globOk _ _) hval hW hd.2.1 hd.1 hd.2.2

theorem over : Rows.redirectOnceRow.holds Try.pinned (OpenSpec.ofChange Rows.redirectOnceSpec) :=
  OpenClaim.holds_of_wide 6 Try.f6 rfl rfl rfl rfl rfl rfl rfl ⟨rfl, rfl, rfl, rfl, rfl⟩ rfl rfl rfl rfl rfl (by kernel_rfl) Try.func6 (by kernel_rfl)
    (of_decide_eq_true (by kernel_rfl)) (by unfold Func.isWrapper; first | (rw [if_pos (by decide +kernel)]; kernel_rfl) | (rw [if_neg (by decide +kernel)]; exact ⟨rfl, rfl⟩))
    (fun os started H enc _ => lifted os started H enc)

theorem proved : Rows.RedirectOnceSaid :=
  over
#print axioms proved
end Go.Proofs.Ytddcoboldcenkaa.redirectOnce
