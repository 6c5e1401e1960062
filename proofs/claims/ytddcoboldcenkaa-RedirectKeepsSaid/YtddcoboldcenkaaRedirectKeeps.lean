/- 'RedirectKeepsSaid': for every input the law returns true, and the input reads as it did. No condition. -/
import Derived.Test.YtddcoboldcenkaaRows
import Derived.Test.YtddcoboldcenkaaKeep
import Derived.WalkKit
import Derived.ProofKit
import Derived.OpenShut
namespace Go.Proofs.Ytddcoboldcenkaa.redirectKeeps
open Go.ChangeShapes Go.WideShapes Go.ChangeAt Go.RowKit Go.PI

theorem own : ownKnob Try.prog.godebug = none := by kernel_rfl

theorem tblOk : TBok Try.prog cfg tbl := ⟨tbl_ok, by intro _ _ _ _ _ h; cases h⟩
theorem globOk (F : Nat → Prop) (w : World) : Glob cfg F w := by intro g e h; cases h

set_option maxRecDepth 100000 in
theorem ran (xs : List AV) (hl : xs.length = Try.f4.params.toList.length) (h : ∀ (j : Nat) (t : TypeId) (c : AV), Try.f4.params.toList[j]? = some t → xs[j]? = some c → ArgTy Try.prog 8 t c) :
    callW tbl 4 xs = some (.bool true, []) := by
  rw [Try.params4] at hl h
  match xs, hl, h with
  | [a0], _, h =>
    have k0 := (h 0 _ a0 rfl rfl).one (q := .sl true [.int .i64, .int .i64, .int .i64, .int .i64, .str, .str]) (by kernel_rfl) (by kernel_rfl)
    obtain ⟨x0, rfl, b0⟩ := mvs k0
    exact c4 x0

set_option maxRecDepth 100000 in
theorem lifted (os : Os) (started : os.Started) (H : Type) (enc : TypeId × Value → H) :
    ReturnsInHanded {} Try.checked os 4 .any (Rows.redirectKeepsSpec.pre6 enc Try.prog Try.f4 Rows.redirectKeepsRow.domain false) (Rows.redirectKeepsSpec.post enc Try.prog Try.f4 false true false false) := by
  refine returnsInHanded_of_change (C := Try.checked) own started (by kernel_rfl) Try.func4
    (ChangeSpec.witness6 (enc := enc) (C := Try.checked) false ⟨#[], #[.slice none 0 0], []⟩ 8 (by kernel_rfl) (by kernel_rfl) (by kernel_rfl) (by kernel_rfl)) ?_
  intro W base args ds gs before hval0 hW hcnd _
  have hval : ∀ (j : Nat) t v, Try.f4.params[j]? = some t → args[j]? = some v → Value.okWide Try.prog W .any base t v := hval0
  have hd : (Rows.redirectKeepsSpec.fn H (ds ++ gs)).args = ds ∧ (Rows.redirectKeepsSpec.fn H (ds ++ gs)).results = [.lit (.bool true)] ∧ (Rows.redirectKeepsSpec.fn H (ds ++ gs)).vars = [] := by
    obtain ⟨p, q, hA0, hV, rfl, hfz, hnd⟩ := id hW
    have hA : DataW.TrodAll enc Try.prog W 0 (fun _ => true) true Try.f4.params.toList args.toList ds p := hA0
    rw [Try.params4] at hA
    obtain ⟨v0, vs0, d0, ds0, p0, q0, hargs, rfl, rfl, h0, r0⟩ := trodAll_cons hA
    obtain ⟨rfl, rfl, rfl⟩ := trodAll_nil r0
    obtain ⟨rfl, rfl⟩ := trodVars_none hV
    exact ⟨rfl, rfl, rfl⟩
  exact law_calls (P := Try.prog) (fn := Try.f4) (s := Rows.redirectKeepsSpec) 8 (by kernel_rfl) tblOk (by kernel_rfl) (by rw [Try.params4]; intro t ht; simp only [List.mem_cons, List.not_mem_nil, or_false] at ht; rcases ht with rfl <;> exact ⟨by kernel_rfl, of_decide_eq_true (by kernel_rfl)⟩) rfl (by kernel_rfl) Try.underlying4
    (by rw [Try.params4]; intro t ht; simp only [List.mem_cons, List.not_mem_nil, or_false] at ht; rcases ht with rfl <;> kernel_rfl) ran (globOk _ _) hval hW hd.2.1 hd.1 hd.2.2

theorem over : Rows.redirectKeepsRow.holds Try.pinned (OpenSpec.ofChange Rows.redirectKeepsSpec) :=
  OpenClaim.holds_of_wide 4 Try.f4 rfl rfl rfl rfl rfl rfl rfl ⟨rfl, rfl, rfl, rfl, rfl⟩ rfl rfl rfl rfl rfl (by kernel_rfl) Try.func4 (by kernel_rfl)
    (of_decide_eq_true (by kernel_rfl)) (by unfold Func.isWrapper; first | (rw [if_pos (by decide +kernel)]; kernel_rfl) | (rw [if_neg (by decide +kernel)]; exact ⟨rfl, rfl⟩))
    (fun os started H enc _ => lifted os started H enc)

theorem proved : Rows.RedirectKeepsSaid :=
  over
#print axioms proved
end Go.Proofs.Ytddcoboldcenkaa.redirectKeeps
