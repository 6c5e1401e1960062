/- 'SignalTakenCardSaid': for every input the law returns true, and the input reads as it did; the package's variables hold what the program's text lays in them. No condition. -/
import Derived.Test.YtlkfejigeeddaaaDoorRows
import Derived.Test.YtlkfejigeeddaaaDoorCards
import Derived.Test.YtlkfejigeeddaaaDoorTie
import Derived.Test.YtlkfejigeeddaaaDoorTak
import Derived.WalkKit
import Derived.ProofKit
import Derived.LaidMore
import Derived.OpenShut
import Derived.Stop.Joined
import Derived.SevenTiedAt
namespace Go.Proofs.YtlkfejigeeddaaaDoor.signalTaken
open Go.ChangeShapes Go.WideShapes Go.ChangeAt Go.RowKit Go.PI

theorem own : ownKnob Tryd.prog.godebug = none := by kernel_rfl
abbrev laid := Rows.signalTakenRow.laid
theorem door_met (os : Os) (args : Array Value) : laidMetH Tryd.prog laid ((World.doorLaid Tryd.prog 400 os).forCall (fun _ _ => 0) ⟨#[], args, []⟩).memory :=
  laidMetH_of_parts3 (fuel := 8) (laidMet_of_run' 8 (by kernel_rfl) (by kernel_rfl)) (by kernel_rfl) (by kernel_rfl)

set_option maxRecDepth 100000 in
theorem ran (xs : List AV) (hl : xs.length = Tryd.f5.params.toList.length) (h : ∀ (j : Nat) (t : TypeId) (c : AV), Tryd.f5.params.toList[j]? = some t → xs[j]? = some c → ArgTy Tryd.prog 8 t c) :
    callW tbl 5 xs = some (.bool true, []) := by
  rw [Tryd.params5] at hl h
  match xs, hl, h with
  | [a0, a1], _, h =>
    obtain ⟨_, rfl, h0⟩ := (h 0 _ a0 rfl rfl).struct (ts := [.sl false [.int .i64], .sl false [.int .i64], .sl false [.int .i64]]) (by kernel_rfl) (by kernel_rfl)
    obtain ⟨_, _, rfl, k0_0, h0⟩ := h0.cons_inv
    obtain ⟨_, _, rfl, k0_1, h0⟩ := h0.cons_inv
    obtain ⟨_, _, rfl, k0_2, h0⟩ := h0.cons_inv
    obtain rfl := h0.nil_inv
    obtain ⟨x0, rfl, b0⟩ := k0_0.ints
    obtain ⟨x1, rfl, b1⟩ := k0_1.ints
    obtain ⟨x2, rfl, b2⟩ := k0_2.ints
    have k1 := (h 1 _ a1 rfl rfl).one (q := .sl false [.int .i64]) (by kernel_rfl) (by kernel_rfl)
    obtain ⟨x3, rfl, b3⟩ := k1.ints
    exact c5 x0 x1 x2 x3

set_option maxRecDepth 100000 in
theorem lifted (os : Os) (started : os.Started) (H : Type) (enc : TypeId × Value → H) :
    ReturnsInHanded {} Tryd.checked os 5 .any (fun w args => (Rows.signalTakenSpec.pre enc Tryd.prog Tryd.f5 [] false w args ∧ laidMetH Tryd.prog laid w) ∧ sizedMet enc Tryd.prog Tryd.f5 (OpenSpec.ofChange Rows.signalTakenSpec) false w args)
      (Rows.signalTakenSpec.post enc Tryd.prog Tryd.f5 false true false false) := by
  refine returnsInHanded_of_change_and (C := Tryd.checked) (X := fun w _ => laidMetH Tryd.prog laid w) (fun _ _ _ hh h => h.of_heap hh) own started (by kernel_rfl) Tryd.func5
    (ChangeSpec.witness_shaped (enc := enc) (C := Tryd.checked) (os := os) (X := fun w _ => laidMetH Tryd.prog laid w) false (World.doorLaid Tryd.prog 400 os) #[.agg #[.slice none 0 0, .slice none 0 0, .slice none 0 0], .slice none 0 0] 8 rfl (World.shaped_of_RefB (by kernel_rfl) (by kernel_rfl)) (by kernel_rfl) (by kernel_rfl) (by kernel_rfl) (door_met os _)) ?_
  intro W base args ds gs before hval0 hW _ _ hL _
  have hval : ∀ (j : Nat) t v, Tryd.f5.params[j]? = some t → args[j]? = some v → Value.okWide Tryd.prog W .any base t v := hval0
  rw [MakeChecks.laidMetH_plain _ _ _ (by kernel_rfl)] at hL
  have hd : (Rows.signalTakenSpec.fn H (ds ++ gs)).args = ds ∧ (Rows.signalTakenSpec.fn H (ds ++ gs)).results = [.lit (.bool true)] ∧ (Rows.signalTakenSpec.fn H (ds ++ gs)).vars = [] := by
    obtain ⟨p, q, hA0, hV, rfl, hfz, hnd⟩ := id hW
    have hA : DataW.TrodAll enc Tryd.prog W 0 (fun _ => true) true Tryd.f5.params.toList args.toList ds p := hA0
    rw [Tryd.params5] at hA
    obtain ⟨v0, vs0, d0, ds0, p0, q0, hargs, rfl, rfl, h0, r0⟩ := trodAll_cons hA
    obtain ⟨v1, vs1, d1, ds1, p1, q1, rfl, rfl, rfl, h1, r1⟩ := trodAll_cons r0
    obtain ⟨rfl, rfl, rfl⟩ := trodAll_nil r1
    obtain ⟨rfl, rfl⟩ := trodVars_none hV
    exact ⟨rfl, rfl, rfl⟩
  exact law_calls (P := Tryd.prog) (fn := Tryd.f5) (s := Rows.signalTakenSpec) 8 (by kernel_rfl) tblOk (by kernel_rfl) (by rw [Tryd.params5]; intro t ht; simp only [List.mem_cons, List.not_mem_nil, or_false] at ht; rcases ht with rfl | rfl <;> exact ⟨by kernel_rfl, of_decide_eq_true (by kernel_rfl)⟩) rfl (by kernel_rfl) Tryd.underlying4
    (by rw [Tryd.params5]; intro t ht; simp only [List.mem_cons, List.not_mem_nil, or_false] at ht; rcases ht with rfl | rfl <;> kernel_rfl) ran (globOk hL) hval hW hd.2.1 hd.1 hd.2.2

theorem over : Rows.signalTakenRow.holds Tryd.pinned (OpenSpec.ofChange Rows.signalTakenSpec) :=
  OpenClaim.holds_of_wide 5 Tryd.f5 rfl rfl rfl rfl rfl rfl rfl ⟨rfl, rfl, rfl, rfl, rfl⟩ rfl rfl rfl rfl rfl (by kernel_rfl) Tryd.func5 (by kernel_rfl)
    (of_decide_eq_true (by kernel_rfl)) (by unfold Func.isWrapper; first | (rw [if_pos (by decide +kernel)]; kernel_rfl) | (rw [if_neg (by decide +kernel)]; exact ⟨rfl, rfl⟩))
    (fun os started H enc _ => lifted os started H enc)

theorem proved : Rows.SignalTakenCardSaid :=
  Claim7.holds_tied_plain_at .later [] [.data, .data, .data, .data] true (true, "a14a70379d657e43ce3674c6be982b26b371f26cab46e7211909c6b6db6df984") false
    over (fun _ h => by cases h) (by kernel_rfl) (fun _ h => by cases h) signalTaken_row_tie rfl ⟨rfl, rfl⟩ (by kernel_rfl) rfl
    (fun f fn hf hfn => by
      obtain rfl : f = 5 := Option.some.inj ((show Tryd.prog.funcNamed "jobshell/jobshelllaw25.SignalTaken" = some 5 by kernel_rfl).symm.trans hf) |>.symm
      obtain rfl : fn = Tryd.f5 := (Option.some.inj (Tryd.func5.symm.trans hfn)).symm
      exact ⟨by kernel_rfl, fun j t ht => by
        rw [Tryd.params5] at ht
        have hm : t ∈ [30, 28] := by simpa using Array.mem_of_getElem? ht
        have hall : ([30, 28].all fun u => !Tryd.prog.wantsStandIn u) = true := by kernel_rfl
        exact (show Tryd.prog.wantsStandIn t = false by simpa using List.all_eq_true.1 hall t hm)⟩)
    (by kernel_rfl)
#print axioms proved
end Go.Proofs.YtlkfejigeeddaaaDoor.signalTaken
