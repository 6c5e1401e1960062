/- 'PromptQuotesCardSaid': for every input the law returns true, and the input reads as it did; the package's variables hold what the program's text lays in them. No condition. -/
import Derived.Test.YteinopeeicjnjaaDoorRows
import Derived.Test.YteinopeeicjnjaaDoorCards
import Derived.Test.YteinopeeicjnjaaDoorTie
import Derived.Test.YteinopeeicjnjaaDoorRi
import Derived.WalkKit
import Derived.ProofKit
import Derived.LaidMore
import Derived.OpenShut
import Derived.Stop.Joined
import Derived.SevenTiedAt
namespace Go.Proofs.YteinopeeicjnjaaDoor.promptQuotes
open Go.ChangeShapes Go.WideShapes Go.ChangeAt Go.RowKit Go.PI

theorem own : ownKnob Tryd.prog.godebug = none := by kernel_rfl
abbrev laid := Rows.promptQuotesRow.laid
theorem door_met (os : Os) (args : Array Value) : laidMetH Tryd.prog laid ((World.doorLaid Tryd.prog 400 os).forCall (fun _ _ => 0) ⟨#[], args, []⟩).memory :=
  laidMetH_of_parts3 (fuel := 8) (laidMet_of_run' 8 (by kernel_rfl) (by kernel_rfl)) (by kernel_rfl) (by kernel_rfl)

set_option maxRecDepth 100000 in
theorem ran (xs : List AV) (hl : xs.length = Tryd.f7.params.toList.length) (h : ∀ (j : Nat) (t : TypeId) (c : AV), Tryd.f7.params.toList[j]? = some t → xs[j]? = some c → ArgTy Tryd.prog 8 t c) :
    callW tbl 7 xs = some (.bool true, []) := by
  rw [Tryd.params7] at hl h
  match xs, hl, h with
  | [a0, a1], _, h =>
    obtain ⟨_, rfl, h0⟩ := (h 0 _ a0 rfl rfl).struct (ts := [.str, .sl true [.str, .str, .bool, .bool, .bool], .sl false [.str], .sl true [.str, .int .i64, .int .i64, .str, .bool, .sl true [.int .i64, .str, .int .i64, .any], .sl true [.int .i64, .any], .sl true [.int .i64, .int .i64, .int .i64, .int .i64, .any], .sl true [.int .i64, .int .i64, .str, .bool, .any, .any, .any, .any, .any], .sl true [.any, .any]], .sl true [.str, .str], .sl true [.int .i64, .str], .int .i64, .int .i64, .int .i64, .int .i64, .str, .int .i64, .int .i64, .int .i64, .bool]) (by kernel_rfl) (by kernel_rfl)
    obtain ⟨_, _, rfl, k0_0, h0⟩ := h0.cons_inv
    obtain ⟨_, _, rfl, k0_1, h0⟩ := h0.cons_inv
    obtain ⟨_, _, rfl, k0_2, h0⟩ := h0.cons_inv
    obtain ⟨_, _, rfl, k0_3, h0⟩ := h0.cons_inv
    obtain ⟨_, _, rfl, k0_4, h0⟩ := h0.cons_inv
    obtain ⟨_, _, rfl, k0_5, h0⟩ := h0.cons_inv
    obtain ⟨_, _, rfl, k0_6, h0⟩ := h0.cons_inv
    obtain ⟨_, _, rfl, k0_7, h0⟩ := h0.cons_inv
    obtain ⟨_, _, rfl, k0_8, h0⟩ := h0.cons_inv
    obtain ⟨_, _, rfl, k0_9, h0⟩ := h0.cons_inv
    obtain ⟨_, _, rfl, k0_10, h0⟩ := h0.cons_inv
    obtain ⟨_, _, rfl, k0_11, h0⟩ := h0.cons_inv
    obtain ⟨_, _, rfl, k0_12, h0⟩ := h0.cons_inv
    obtain ⟨_, _, rfl, k0_13, h0⟩ := h0.cons_inv
    obtain ⟨_, _, rfl, k0_14, h0⟩ := h0.cons_inv
    obtain rfl := h0.nil_inv
    obtain ⟨x0, rfl, b0⟩ := k0_0.str_inv
    obtain ⟨x1, rfl, b1⟩ := vrs k0_1
    obtain ⟨x2, rfl, b2⟩ := k0_2.strs
    obtain ⟨x3, rfl, b3⟩ := k0_3.sl_inv
    obtain ⟨x4, rfl, b4⟩ := k0_4.sl_inv
    obtain ⟨x5, rfl, b5⟩ := k0_5.sl_inv
    obtain ⟨x6, rfl, b6⟩ := k0_6.int_inv
    obtain ⟨x7, rfl, b7⟩ := k0_7.int_inv
    obtain ⟨x8, rfl, b8⟩ := k0_8.int_inv
    obtain ⟨x9, rfl, b9⟩ := k0_9.int_inv
    obtain ⟨x10, rfl, b10⟩ := k0_10.str_inv
    obtain ⟨x11, rfl, b11⟩ := k0_11.int_inv
    obtain ⟨x12, rfl, b12⟩ := k0_12.int_inv
    obtain ⟨x13, rfl, b13⟩ := k0_13.int_inv
    obtain ⟨x14, rfl⟩ := k0_14.bool_inv
    have k1 := (h 1 _ a1 rfl rfl).one (q := .str) (by kernel_rfl) (by kernel_rfl)
    obtain ⟨x15, rfl, b15⟩ := k1.str_inv
    exact c7 ⟨x0, x1, x2, x3, x4, x5, x6, x7, x8, x9, x10, x11, x12, x13, x14⟩ ⟨wf64 b7, wf64 b8, wf64 b9⟩ x15

set_option maxRecDepth 100000 in
theorem lifted (os : Os) (started : os.Started) (H : Type) (enc : TypeId × Value → H) :
    ReturnsInHanded {} Tryd.checked os 7 .any (fun w args => (Rows.promptQuotesSpec.pre enc Tryd.prog Tryd.f7 [] false w args ∧ laidMetH Tryd.prog laid w) ∧ sizedMet enc Tryd.prog Tryd.f7 (OpenSpec.ofChange Rows.promptQuotesSpec) false w args)
      (Rows.promptQuotesSpec.post enc Tryd.prog Tryd.f7 false true false false) := by
  refine returnsInHanded_of_change_and (C := Tryd.checked) (X := fun w _ => laidMetH Tryd.prog laid w) (fun _ _ _ hh h => h.of_heap hh) own started (by kernel_rfl) Tryd.func7
    (ChangeSpec.witness_shaped (enc := enc) (C := Tryd.checked) (os := os) (X := fun w _ => laidMetH Tryd.prog laid w) false (World.doorLaid Tryd.prog 400 os) #[.agg #[.string ⟨#[]⟩, .slice none 0 0, .slice none 0 0, .slice none 0 0, .slice none 0 0, .slice none 0 0, .int .i64 0, .int .i64 0, .int .i64 0, .int .i64 0, .string ⟨#[]⟩, .int .i64 0, .int .i64 0, .int .i64 0, .bool false], .string ⟨#[]⟩] 8 rfl (World.shaped_of_RefB (by kernel_rfl) (by kernel_rfl)) (by kernel_rfl) (by kernel_rfl) (by kernel_rfl) (door_met os _)) ?_
  intro W base args ds gs before hval0 hW _ _ hL _
  have hval : ∀ (j : Nat) t v, Tryd.f7.params[j]? = some t → args[j]? = some v → Value.okWide Tryd.prog W .any base t v := hval0
  rw [MakeChecks.laidMetH_plain _ _ _ (by kernel_rfl)] at hL
  have hd : (Rows.promptQuotesSpec.fn H (ds ++ gs)).args = ds ∧ (Rows.promptQuotesSpec.fn H (ds ++ gs)).results = [.lit (.bool true)] ∧ (Rows.promptQuotesSpec.fn H (ds ++ gs)).vars = [] := by
    obtain ⟨p, q, hA0, hV, rfl, hfz, hnd⟩ := id hW
    have hA : DataW.TrodAll enc Tryd.prog W 0 (fun _ => true) true Tryd.f7.params.toList args.toList ds p := hA0
    rw [Tryd.params7] at hA
    obtain ⟨v0, vs0, d0, ds0, p0, q0, hargs, rfl, rfl, h0, r0⟩ := trodAll_cons hA
    obtain ⟨v1, vs1, d1, ds1, p1, q1, rfl, rfl, rfl, h1, r1⟩ := trodAll_cons r0
    obtain ⟨rfl, rfl, rfl⟩ := trodAll_nil r1
    obtain ⟨rfl, rfl⟩ := trodVars_none hV
    exact ⟨rfl, rfl, rfl⟩
  exact law_calls (P := Tryd.prog) (fn := Tryd.f7) (s := Rows.promptQuotesSpec) 8 (by kernel_rfl) tblOk (by kernel_rfl) (by rw [Tryd.params7]; intro t ht; simp only [List.mem_cons, List.not_mem_nil, or_false] at ht; rcases ht with rfl | rfl <;> exact ⟨by kernel_rfl, of_decide_eq_true (by kernel_rfl)⟩) rfl (by kernel_rfl) Tryd.underlying4
    (by rw [Tryd.params7]; intro t ht; simp only [List.mem_cons, List.not_mem_nil, or_false] at ht; rcases ht with rfl | rfl <;> kernel_rfl) ran (globOk hL) hval hW hd.2.1 hd.1 hd.2.2

theorem over : Rows.promptQuotesRow.holds Tryd.pinned (OpenSpec.ofChange Rows.promptQuotesSpec) :=
  OpenClaim.holds_of_wide 7 Tryd.f7 rfl rfl rfl rfl rfl rfl rfl ⟨rfl, rfl, rfl, rfl, rfl⟩ rfl rfl rfl rfl rfl (by kernel_rfl) Tryd.func7 (by kernel_rfl)
    (of_decide_eq_true (by kernel_rfl)) (by unfold Func.isWrapper; first | (rw [if_pos (by decide +kernel)]; kernel_rfl) | (rw [if_neg (by decide +kernel)]; exact ⟨rfl, rfl⟩))
    (fun os started H enc _ => lifted os started H enc)

theorem proved : Rows.PromptQuotesCardSaid :=
  Claim7.holds_tied_plain_at .later [] [.data, .data, .data] true (true, "6b48662e5dc6b3e4aa893dec777ea98e2cd43473e035dc243ad2d60cd5144f59") false
    over (fun _ h => by cases h) (by kernel_rfl) (fun _ h => by cases h) promptQuotes_row_tie rfl ⟨rfl, rfl⟩ (by kernel_rfl) rfl
    (fun f fn hf hfn => by
      obtain rfl : f = 7 := Option.some.inj ((show Tryd.prog.funcNamed "jobshell/jobshelllaw48.PromptQuotes" = some 7 by kernel_rfl).symm.trans hf) |>.symm
      obtain rfl : fn = Tryd.f7 := (Option.some.inj (Tryd.func7.symm.trans hfn)).symm
      exact ⟨by kernel_rfl, fun j t ht => by
        rw [Tryd.params7] at ht
        have hm : t ∈ [30, 9] := by simpa using Array.mem_of_getElem? ht
        have hall : ([30, 9].all fun u => !Tryd.prog.wantsStandIn u) = true := by kernel_rfl
        exact (show Tryd.prog.wantsStandIn t = false by simpa using List.all_eq_true.1 hall t hm)⟩)
    (by kernel_rfl)
#print axioms proved
end Go.Proofs.YteinopeeicjnjaaDoor.promptQuotes
