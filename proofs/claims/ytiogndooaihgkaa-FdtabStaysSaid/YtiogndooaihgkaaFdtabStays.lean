/- 'FdtabStaysSaid': for every input the law returns true, and the input reads as it did. No condition. -/
import Derived.Test.YtiogndooaihgkaaRows
import Derived.Test.YtiogndooaihgkaaStay
import Derived.WalkKit
import Derived.ProofKit
import Derived.OpenShut
namespace Go.Proofs.Ytiogndooaihgkaa.fdtabStays
open Go.ChangeShapes Go.WideShapes Go.ChangeAt Go.RowKit Go.PI

theorem own : ownKnob Try.prog.godebug = none := by kernel_rfl

 

set_option maxRecDepth 100000 in
theorem ran (xs : List AV) (hl : xs.length = Try.f8.params.toList.length) (h : ∀ (j : Nat) (t : TypeId) (c : AV), Try.f8.params.toList[j]? = some t → xs[j]? = some c → ArgTy Try.prog 8 t c) :
    callW tbl 8 xs = some (.bool true, []) := by
  rw [Try.params8] at hl h
  match xs, hl, h with
  | [a0, a1], _, h =>
    have k0 := (h 0 _ a0 rfl rfl).one (q := .sl true [.int .i64, .int .i64, .bool]) (by kernel_rfl) (by kernel_rfl)
    obtain ⟨x0, rfl, b0⟩ := fds k0
    obtain ⟨_, rfl, h1⟩ := (h 1 _ a1 rfl rfl).struct (ts := [.int .i64, .int .i64, .bool]) (by kernel_rfl) (by kernel_rfl)
    obtain ⟨_, _, rfl, k1_0, h1⟩ := h1.cons_inv
    obtain ⟨_, _, rfl, k1_1, h1⟩ := h1.cons_inv
    obtain ⟨_, _, rfl, k1_2, h1⟩ := h1.cons_inv
    obtain rfl := h1.nil_inv
    obtain ⟨x1, rfl, b1⟩ := k1_0.int_inv
    obtain ⟨x2, rfl, b2⟩ := k1_1.int_inv
    obtain ⟨x3, rfl⟩ := k1_2.bool_inv
    exact c8 x0 ⟨x1, x2, x3⟩

set_option maxRecDepth 100000 in
theorem lifted (os : Os) (started : os.Started) (H : Type) (enc : TypeId × Value → H) :
    ReturnsInHanded {} Try.checked os 8 .any (Rows.fdtabStaysSpec.pre6 enc Try.prog Try.f8 Rows.fdtabStaysRow.domain false) (Rows.fdtabStaysSpec.post enc Try.prog Try.f8 false true false false) := by
  refine returnsInHanded_of_change (C := Try.checked) own started (by kernel_rfl) Try.func8
    (ChangeSpec.witness6 (enc := enc) (C := Try.checked) false ⟨#[], #[.slice none 0 0, .agg #[.int .i64 0, .int .i64 0, .bool false]], []⟩ 8 (by kernel_rfl) (by kernel_rfl) (by kernel_rfl) (by kernel_rfl)) ?_
  intro W base args ds gs before hval0 hW hcnd _
  have hval : ∀ (j : Nat) t v, Try.f8.params[j]? = some t → args[j]? = some v → Value.okWide Try.prog W .any base t v := hval0
  have hd : (Rows.fdtabStaysSpec.fn H (ds ++ gs)).args = ds ∧ (Rows.fdtabStaysSpec.fn H (ds ++ gs)).results = [.lit (.bool true)] ∧ (Rows.fdtabStaysSpec.fn H (ds ++ gs)).vars = [] := by
    obtain ⟨p, q, hA0, hV, rfl, hfz, hnd⟩ := id hW
    have hA : DataW.TrodAll enc Try.prog W 0 (fun _ => true) true Try.f8.params.toList args.toList ds p := hA0
    rw [Try.params8] at hA
    obtain ⟨v0, vs0, d0, ds0, p0, q0, hargs, rfl, rfl, h0, r0⟩ := trodAll_cons hA
    obtain ⟨v1, vs1, d1, ds1, p1, q1, rfl, rfl, rfl, h1, r1⟩ := trodAll_cons r0
    obtain ⟨rfl, rfl, rfl⟩ := trodAll_nil r1
    obtain ⟨rfl, rfl⟩ := trodVars_none hV
    exact ⟨rfl, rfl, rfl⟩
  exact law_calls (P := Try.prog) (fn := Try.f8) (s := Rows.fdtabStaysSpec) 8 (by kernel_rfl) tblOk (by kernel_rfl) (by rw [Try.params8]; intro t ht; simp only [List.mem_cons, List.not_mem_nil, or_false] at ht; rcases ht with rfl | rfl <;> exact ⟨by kernel_rfl, of_decide_eq_true (by kernel_rfl)⟩) rfl (by kernel_rfl) Try.underlying4
    (by rw [Try.params8]; intro t ht; simp only [List.mem_cons, List.not_mem_nil, or_false] at ht; rcases ht with rfl | rfl <;> kernel_rfl) ran (globOk _ _) hval hW hd.2.1 hd.1 hd.2.2

theorem over : Rows.fdtabStaysRow.holds Try.pinned (OpenSpec.ofChange Rows.fdtabStaysSpec) :=
  OpenClaim.holds_of_wide 8 Try.f8 rfl rfl rfl rfl rfl rfl rfl ⟨rfl, rfl, rfl, rfl, rfl⟩ rfl rfl rfl rfl rfl (by kernel_rfl) Try.func8 (by kernel_rfl)
    (of_decide_eq_true (by kernel_rfl)) (by unfold Func.isWrapper; first | (rw [if_pos (by decide +kernel)]; kernel_rfl) | (rw [if_neg (by decide +kernel)]; exact ⟨rfl, rfl⟩))
    (fun os started H enc _ => lifted os started H enc)

theorem proved : Rows.FdtabStaysSaid :=
  over
#print axioms proved
end Go.Proofs.Ytiogndooaihgkaa.fdtabStays
