/- 'JobsStayCardSaid': for every input the law returns true, and the input reads as it did; the package's variables hold what the program's text lays in them. No condition. -/
import Derived.Test.YtpphfbfmoipoaaaDoorRows
import Derived.Test.YtpphfbfmoipoaaaDoorCards
import Derived.Test.YtpphfbfmoipoaaaDoorTie
import Derived.Test.YtpphfbfmoipoaaaDoorJx
import Derived.WalkKit
import Derived.ProofKit
import Derived.LaidMore
import Derived.OpenShut
import Derived.Stop.Joined
import Derived.SevenTiedAt
namespace Go.Proofs.YtpphfbfmoipoaaaDoor.jobsStay
open Go.ChangeShapes Go.WideShapes Go.ChangeAt Go.RowKit Go.PI

theorem own : ownKnob Tryd.prog.godebug = none := by kernel_rfl
abbrev laid := Rows.jobsStayRow.laid
theorem door_met (os : Os) (args : Array Value) : laidMetH Tryd.prog laid ((World.doorLaid Tryd.prog 400 os).forCall (fun _ _ => 0) ⟨#[], args, []⟩).memory :=
  laidMetH_of_parts3 (fuel := 8) (laidMet_of_run' 8 (by kernel_rfl) (by kernel_rfl)) (by kernel_rfl) (by kernel_rfl)

set_option maxRecDepth 100000 in
theorem ran (xs : List AV) (hl : xs.length = Tryd.f8.params.toList.length) (h : ∀ (j : Nat) (t : TypeId) (c : AV), Tryd.f8.params.toList[j]? = some t → xs[j]? = some c → ArgTy Tryd.prog 8 t c) :
    callW tbl 8 xs = some (.bool true, []) := by
  rw [Tryd.params8] at hl h
  match xs, hl, h with
  | [a0], _, h =>
    have k0 := (h 0 _ a0 rfl rfl).one (q := .sl true [.int .i64, .int .i64, .int .i64, .str]) (by kernel_rfl) (by kernel_rfl)
    obtain ⟨x0, rfl, b0⟩ := ops5 k0
    exact c8 x0 b0.2

set_option maxRecDepth 100000 in
theorem lifted (os : Os) (started : os.Started) (H : Type) (enc : TypeId × Value → H) :
    ReturnsInHanded {} Tryd.checked os 8 .any (fun w args => (Rows.jobsStaySpec.pre enc Tryd.prog Tryd.f8 [] false w args ∧ laidMetH Tryd.prog laid w) ∧ sizedMet enc Tryd.prog Tryd.f8 (OpenSpec.ofChange Rows.jobsStaySpec) false w args)
      (Rows.jobsStaySpec.post enc Tryd.prog Tryd.f8 false true false false) := by
  refine handed_shaped_and (C := Tryd.checked) (X := fun w _ => laidMetH Tryd.prog laid w) (fun _ _ _ hh h => h.of_heap hh) own started (by kernel_rfl) Tryd.func8
    (ChangeSpec.witness_shaped (enc := enc) (C := Tryd.checked) (os := os) (X := fun w _ => laidMetH Tryd.prog laid w) false (World.doorLaid Tryd.prog 400 os) #[.slice none 0 0] 8 rfl (World.shaped_of_RefB (by kernel_rfl) (by kernel_rfl)) (by kernel_rfl) (by kernel_rfl) (by kernel_rfl) (door_met os _)) ?_
  intro W base args ds gs before hval0 hW hL hsh
  obtain ⟨m, hm, hms⟩ := maxlen W hsh
  have hval : ∀ (j : Nat) t v, Tryd.f8.params[j]? = some t → args[j]? = some v → Value.okWide Tryd.prog W .any base t v := hval0
  rw [MakeChecks.laidMetH_plain _ _ _ (by kernel_rfl)] at hL
  have hd : (Rows.jobsStaySpec.fn H (ds ++ gs)).args = ds ∧ (Rows.jobsStaySpec.fn H (ds ++ gs)).results = [.lit (.bool true)] ∧ (Rows.jobsStaySpec.fn H (ds ++ gs)).vars = [] := by
    obtain ⟨p, q, hA0, hV, rfl, hfz, hnd⟩ := id hW
    have hA : DataW.TrodAll enc Tryd.prog W 0 (fun _ => true) true Tryd.f8.params.toList args.toList ds p := hA0
    rw [Tryd.params8] at hA
    obtain ⟨v0, vs0, d0, ds0, p0, q0, hargs, rfl, rfl, h0, r0⟩ := trodAll_cons hA
    obtain ⟨rfl, rfl, rfl⟩ := trodAll_nil r0
    obtain ⟨rfl, rfl⟩ := trodVars_none hV
    exact ⟨rfl, rfl, rfl⟩
  exact law_calls (P := Tryd.prog) (fn := Tryd.f8) (s := Rows.jobsStaySpec) 8 (by kernel_rfl) (tblOk m) (by kernel_rfl) (by rw [Tryd.params8]; intro t ht; simp only [List.mem_cons, List.not_mem_nil, or_false] at ht; rcases ht with rfl <;> exact ⟨by kernel_rfl, of_decide_eq_true (by kernel_rfl)⟩) rfl (by kernel_rfl) Tryd.underlying4
    (by rw [Tryd.params8]; intro t ht; simp only [List.mem_cons, List.not_mem_nil, or_false] at ht; rcases ht with rfl <;> kernel_rfl) ran (globOk hm hms hL) hval hW hd.2.1 hd.1 hd.2.2

theorem over : Rows.jobsStayRow.holds Tryd.pinned (OpenSpec.ofChange Rows.jobsStaySpec) :=
  OpenClaim.holds_of_wide 8 Tryd.f8 rfl rfl rfl rfl rfl rfl rfl ⟨rfl, rfl, rfl, rfl, rfl⟩ rfl rfl rfl rfl rfl (by kernel_rfl) Tryd.func8 (by kernel_rfl)
    (of_decide_eq_true (by kernel_rfl)) (by unfold Func.isWrapper; first | (rw [if_pos (by decide +kernel)]; kernel_rfl) | (rw [if_neg (by decide +kernel)]; exact ⟨rfl, rfl⟩))
    (fun os started H enc _ => lifted os started H enc)

theorem proved : Rows.JobsStayCardSaid :=
  Claim7.holds_tied_plain_at .later [] [.data, .data, .data, .data] true (true, "4efc83c5f7c56876daff528e77bd2885cf6337ea40520391bfe33da7df1f3671") false
    over (fun _ h => by cases h) (by kernel_rfl) (fun _ h => by cases h) jobsStay_row_tie rfl ⟨rfl, rfl⟩ (by kernel_rfl) rfl
    (fun f fn hf hfn => by
      obtain rfl : f = 8 := Option.some.inj ((show Tryd.prog.funcNamed "jobshell/jobshelllaw36.JobsStay" = some 8 by kernel_rfl).symm.trans hf) |>.symm
      obtain rfl : fn = Tryd.f8 := (Option.some.inj (Tryd.func8.symm.trans hfn)).symm
      exact ⟨by kernel_rfl, fun j t ht => by
        rw [Tryd.params8] at ht
        have hm : t ∈ [53] := by simpa using Array.mem_of_getElem? ht
        have hall : ([53].all fun u => !Tryd.prog.wantsStandIn u) = true := by kernel_rfl
        exact (show Tryd.prog.wantsStandIn t = false by simpa using List.all_eq_true.1 hall t hm)⟩)
    (by kernel_rfl)
#print axioms proved
end Go.Proofs.YtpphfbfmoipoaaaDoor.jobsStay
