/- 'ParamChoosesCardSaid': for every input the law returns true, and the input reads as it did; the package's variables hold what the program's text lays in them. No condition. -/
import Derived.Test.YtmlmijmnekdkpaaDoorRows
import Derived.Test.YtmlmijmnekdkpaaDoorCards
import Derived.Test.YtmlmijmnekdkpaaDoorTie
import Derived.Test.YtmlmijmnekdkpaaDoorCh
import Derived.WalkKit
import Derived.ProofKit
import Derived.LaidMore
import Derived.OpenShut
import Derived.Stop.Joined
import Derived.SevenTiedAt
namespace Go.Proofs.YtmlmijmnekdkpaaDoor.paramChooses
open Go.ChangeShapes Go.WideShapes Go.ChangeAt Go.RowKit Go.PI

theorem own : ownKnob Tryd.prog.godebug = none := by kernel_rfl
abbrev laid := Rows.paramChoosesRow.laid
theorem door_met (os : Os) (args : Array Value) : laidMetH Tryd.prog laid ((World.doorLaid Tryd.prog 400 os).forCall (fun _ _ => 0) ⟨#[], args, []⟩).memory :=
  laidMetH_of_parts3 (fuel := 8) (laidMet_of_run' 8 (by kernel_rfl) (by kernel_rfl)) (by kernel_rfl) (by kernel_rfl)

set_option maxRecDepth 100000 in
theorem ran (xs : List AV) (hl : xs.length = Tryd.f4.params.toList.length) (h : ∀ (j : Nat) (t : TypeId) (c : AV), Tryd.f4.params.toList[j]? = some t → xs[j]? = some c → ArgTy Tryd.prog 8 t c) :
    callW tbl 4 xs = some (.bool true, []) := by
  rw [Tryd.params4] at hl h
  match xs, hl, h with
  | [a0, a1, a2], _, h =>
    have k0 := (h 0 _ a0 rfl rfl).one (q := .int .i64) (by kernel_rfl) (by kernel_rfl)
    obtain ⟨x0, rfl, b0⟩ := k0.int_inv
    obtain ⟨_, rfl, h1⟩ := (h 1 _ a1 rfl rfl).struct (ts := [.bool, .bool]) (by kernel_rfl) (by kernel_rfl)
    obtain ⟨_, _, rfl, k1_0, h1⟩ := h1.cons_inv
    obtain ⟨_, _, rfl, k1_1, h1⟩ := h1.cons_inv
    obtain rfl := h1.nil_inv
    obtain ⟨x1, rfl⟩ := k1_0.bool_inv
    obtain ⟨x2, rfl⟩ := k1_1.bool_inv
    have k2 := (h 2 _ a2 rfl rfl).one (q := .str) (by kernel_rfl) (by kernel_rfl)
    obtain ⟨x3, rfl, b3⟩ := k2.str_inv
    exact c4 x0 x1 x2 x3

set_option maxRecDepth 100000 in
theorem lifted (os : Os) (started : os.Started) (H : Type) (enc : TypeId × Value → H) :
    ReturnsInHanded {} Tryd.checked os 4 .any (fun w args => (Rows.paramChoosesSpec.pre enc Tryd.prog Tryd.f4 [] false w args ∧ laidMetH Tryd.prog laid w) ∧ sizedMet enc Tryd.prog Tryd.f4 (OpenSpec.ofChange Rows.paramChoosesSpec) false w args)
      (Rows.paramChoosesSpec.post enc Tryd.prog Tryd.f4 false true false false) := by
  refine returnsInHanded_of_change_and (C := Tryd.checked) (X := fun w _ => laidMetH Tryd.prog laid w) (fun _ _ _ hh h => h.of_heap hh) own started (by kernel_rfl) Tryd.func4
    (ChangeSpec.witness_shaped (enc := enc) (C := Tryd.checked) (os := os) (X := fun w _ => laidMetH Tryd.prog laid w) false (World.doorLaid Tryd.prog 400 os) #[.int .i64 0, .agg #[.bool false, .bool false], .string ⟨#[]⟩] 8 rfl (World.shaped_of_RefB (by kernel_rfl) (by kernel_rfl)) (by kernel_rfl) (by kernel_rfl) (by kernel_rfl) (door_met os _)) ?_
  intro W base args ds gs before hval0 hW _ _ hL _
  have hval : ∀ (j : Nat) t v, Tryd.f4.params[j]? = some t → args[j]? = some v → Value.okWide Tryd.prog W .any base t v := hval0
  rw [MakeChecks.laidMetH_plain _ _ _ (by kernel_rfl)] at hL
  have hd : (Rows.paramChoosesSpec.fn H (ds ++ gs)).args = ds ∧ (Rows.paramChoosesSpec.fn H (ds ++ gs)).results = [.lit (.bool true)] ∧ (Rows.paramChoosesSpec.fn H (ds ++ gs)).vars = [] := by
    obtain ⟨p, q, hA0, hV, rfl, hfz, hnd⟩ := id hW
    have hA : DataW.TrodAll enc Tryd.prog W 0 (fun _ => true) true Tryd.f4.params.toList args.toList ds p := hA0
    rw [Tryd.params4] at hA
    obtain ⟨v0, vs0, d0, ds0, p0, q0, hargs, rfl, rfl, h0, r0⟩ := trodAll_cons hA
    obtain ⟨v1, vs1, d1, ds1, p1, q1, rfl, rfl, rfl, h1, r1⟩ := trodAll_cons r0
    obtain ⟨v2, vs2, d2, ds2, p2, q2, rfl, rfl, rfl, h2, r2⟩ := trodAll_cons r1
    obtain ⟨rfl, rfl, rfl⟩ := trodAll_nil r2
    obtain ⟨rfl, rfl⟩ := trodVars_none hV
    exact ⟨rfl, rfl, rfl⟩
  exact law_calls (P := Tryd.prog) (fn := Tryd.f4) (s := Rows.paramChoosesSpec) 8 (by kernel_rfl) tblOk (by kernel_rfl) (by rw [Tryd.params4]; intro t ht; simp only [List.mem_cons, List.not_mem_nil, or_false] at ht; rcases ht with rfl | rfl | rfl <;> exact ⟨by kernel_rfl, of_decide_eq_true (by kernel_rfl)⟩) rfl (by kernel_rfl) Tryd.underlying4
    (by rw [Tryd.params4]; intro t ht; simp only [List.mem_cons, List.not_mem_nil, or_false] at ht; rcases ht with rfl | rfl | rfl <;> kernel_rfl) ran (globOk hL) hval hW hd.2.1 hd.1 hd.2.2

theorem over : Rows.paramChoosesRow.holds Tryd.pinned (OpenSpec.ofChange Rows.paramChoosesSpec) :=
  OpenClaim.holds_of_wide 4 Tryd.f4 rfl rfl rfl rfl rfl rfl rfl ⟨rfl, rfl, rfl, rfl, rfl⟩ rfl rfl rfl rfl rfl (by kernel_rfl) Tryd.func4 (by kernel_rfl)
    (of_decide_eq_true (by kernel_rfl)) (by unfold Func.isWrapper; first | (rw [if_pos (by decide +kernel)]; kernel_rfl) | (rw [if_neg (by decide +kernel)]; exact ⟨rfl, rfl⟩))
    (fun os started H enc _ => lifted os started H enc)

theorem proved : Rows.ParamChoosesCardSaid :=
  Claim7.holds_tied_plain_at .later [] [.data, .data, .data] true (true, "938b025c0917e96f3a95e97b566f2c3d43cbf96fe82d94234e0ecb6cd516634e") false
    over (fun _ h => by cases h) (by kernel_rfl) (fun _ h => by cases h) paramChooses_row_tie rfl ⟨rfl, rfl⟩ (by kernel_rfl) rfl
    (fun f fn hf hfn => by
      obtain rfl : f = 4 := Option.some.inj ((show Tryd.prog.funcNamed "jobshell/jobshelllaw17.ParamChooses" = some 4 by kernel_rfl).symm.trans hf) |>.symm
      obtain rfl : fn = Tryd.f4 := (Option.some.inj (Tryd.func4.symm.trans hfn)).symm
      exact ⟨by kernel_rfl, fun j t ht => by
        rw [Tryd.params4] at ht
        have hm : t ∈ [3, 37, 9] := by simpa using Array.mem_of_getElem? ht
        have hall : ([3, 37, 9].all fun u => !Tryd.prog.wantsStandIn u) = true := by kernel_rfl
        exact (show Tryd.prog.wantsStandIn t = false by simpa using List.all_eq_true.1 hall t hm)⟩)
    (by kernel_rfl)
#print axioms proved
end Go.Proofs.YtmlmijmnekdkpaaDoor.paramChooses
