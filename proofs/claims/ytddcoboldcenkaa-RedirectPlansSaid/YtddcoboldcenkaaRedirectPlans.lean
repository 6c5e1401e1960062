/- 'RedirectPlansSaid': for every input the law returns true, and the input reads as it did. No condition. -/
import Derived.Test.YtddcoboldcenkaaRows
import Derived.Test.YtddcoboldcenkaaPlan2
import Derived.WalkKit
import Derived.ProofKit
import Derived.OpenShut
namespace Go.Proofs.Ytddcoboldcenkaa.redirectPlans
open Go.ChangeShapes Go.WideShapes Go.ChangeAt Go.RowKit Go.PI

theorem own : ownKnob Try.prog.godebug = none := by kernel_rfl

theorem tblOk : TBok Try.prog cfg tbl := ⟨tbl_ok, by intro _ _ _ _ _ h; cases h⟩
theorem globOk (F : Nat → Prop) (w : World) : Glob cfg F w := by intro g e h; cases h

set_option maxRecDepth 100000 in
theorem ran (xs : List AV) (hl : xs.length = Try.f3.params.toList.length) (h : ∀ (j : Nat) (t : TypeId) (c : AV), Try.f3.params.toList[j]? = some t → xs[j]? = some c → ArgTy Try.prog 4 t c) :
    callW tbl 3 xs = some (.bool true, []) := by
  rw [Try.params3] at hl h
  match xs, hl, h with
  | [a0, a1, a2], _, h =>
    have k0 := (h 0 _ a0 rfl rfl).one (q := .sl true [.int .i64, .int .i64, .int .i64, .int .i64, .any]) (by kernel_rfl) (by kernel_rfl)
    obtain ⟨x0, rfl, b0⟩ := rxs k0
    have k1 := (h 1 _ a1 rfl rfl).one (q := .sl false [.str]) (by kernel_rfl) (by kernel_rfl)
    obtain ⟨x1, rfl, b1⟩ := k1.strs
    have k2 := (h 2 _ a2 rfl rfl).one (q := .int .i64) (by kernel_rfl) (by kernel_rfl)
    obtain ⟨x2, rfl, b2⟩ := k2.int_inv
    exact c3 x0 x1 x2

set_option maxRecDepth 100000 in
theorem lifted (os : Os) (started : os.Started) (H : Type) (enc : TypeId × Value → H) :
    ReturnsInHanded {} Try.checked os 3 .any (Rows.redirectPlansSpec.pre6 enc Try.prog Try.f3 Rows.redirectPlansRow.domain false) (Rows.redirectPlansSpec.post enc Try.prog Try.f3 false true false false) := by
  refine returnsInHanded_of_change (C := Try.checked) own started (by kernel_rfl) Try.func3
    (ChangeSpec.witness6 (enc := enc) (C := Try.checked) false ⟨#[], #[.slice none 0 0, .slice none 0 0, .int .i64 0], []⟩ 8 (by kernel_rfl) (by kernel_rfl) (by kernel_rfl) (by kernel_rfl)) ?_
  intro W base args ds gs before hval0 hW hcnd _
  have hval : ∀ (j : Nat) t v, Try.f3.params[j]? = some t → args[j]? = some v → Value.okWide Try.prog W .any base t v := hval0
  have hd : (Rows.redirectPlansSpec.fn H (ds ++ gs)).args = ds ∧ (Rows.redirectPlansSpec.fn H (ds ++ gs)).results = [.lit (.bool true)] ∧ (Rows.redirectPlansSpec.fn H (ds ++ gs)).vars = [] := by
    obtain ⟨p, q, hA0, hV, rfl, hfz, hnd⟩ := id hW
    have hA : DataW.TrodAll enc Try.prog W 0 (fun _ => true) true Try.f3.params.toList args.toList ds p := hA0
    rw [Try.params3] at hA
    obtain ⟨v0, vs0, d0, ds0, p0, q0, hargs, rfl, rfl, h0, r0⟩ := trodAll_cons hA
    obtain ⟨v1, vs1, d1, ds1, p1, q1, rfl, rfl, rfl, h1, r1⟩ := trodAll_cons r0
    obtain ⟨v2, vs2, d2, ds2, p2, q2, rfl, rfl, rfl, h2, r2⟩ := trodAll_cons r1
    obtain ⟨rfl, rfl, rfl⟩ := trodAll_nil r2
    obtain ⟨rfl, rfl⟩ := trodVars_none hV
    exact ⟨rfl, rfl, rfl⟩
  exact law_calls (P := Try.prog) (fn := Try.f3) (s := Rows.redirectPlansSpec) 4 (by kernel_rfl) tblOk (by kernel_rfl) (by rw [Try.params3]; intro t ht; simp only [List.mem_cons, List.not_mem_nil, or_false] at ht; rcases ht with rfl | rfl | rfl <;> exact ⟨by kernel_rfl, of_decide_eq_true (by kernel_rfl)⟩) rfl (by kernel_rfl) Try.underlying4
    (by rw [Try.params3]; intro t ht; simp only [List.mem_cons, List.not_mem_nil, or_false] at ht; rcases ht with rfl | rfl | rfl <;> kernel_rfl) ran (globOk _ _) hval hW hd.2.1 hd.1 hd.2.2

theorem over : Rows.redirectPlansRow.holds Try.pinned (OpenSpec.ofChange Rows.redirectPlansSpec) :=
  OpenClaim.holds_of_wide 3 Try.f3 rfl rfl rfl rfl rfl rfl rfl ⟨rfl, rfl, rfl, rfl, rfl⟩ rfl rfl rfl rfl rfl (by kernel_rfl) Try.func3 (by kernel_rfl)
    (of_decide_eq_true (by kernel_rfl)) (by unfold Func.isWrapper; first | (rw [if_pos (by decide +kernel)]; kernel_rfl) | (rw [if_neg (by decide +kernel)]; exact ⟨rfl, rfl⟩))
    (fun os started H enc _ => lifted os started H enc)

theorem proved : Rows.RedirectPlansSaid :=
  over
#print axioms proved
end Go.Proofs.Ytddcoboldcenkaa.redirectPlans
