/- 'JobsLooksCardSaid': for every input the law returns true, and the input reads as it did; the package's variables hold what the program's text lays in them. No condition. -/
import Derived.Test.YtpphfbfmoipoaaaDoorRows
import Derived.Test.YtpphfbfmoipoaaaDoorCards
import Derived.Test.YtpphfbfmoipoaaaDoorTie
import Derived.Test.YtpphfbfmoipoaaaDoorJt
import Derived.WalkKit
import Derived.ProofKit
import Derived.LaidMore
import Derived.OpenShut
import Derived.Stop.Joined
import Derived.SevenTiedAt
namespace Go.Proofs.YtpphfbfmoipoaaaDoor.jobsLooks
open Go.ChangeShapes Go.WideShapes Go.ChangeAt Go.RowKit Go.PI

theorem own : ownKnob Tryd.prog.godebug = none := by kernel_rfl
abbrev laid := Rows.jobsLooksRow.laid
theorem door_met (os : Os) (args : Array Value) : laidMetH Tryd.prog laid ((World.doorLaid Tryd.prog 400 os).forCall (fun _ _ => 0) ⟨#[], args, []⟩).memory :=
  laidMetH_of_parts3 (fuel := 8) (laidMet_of_run' 8 (by kernel_rfl) (by kernel_rfl)) (by kernel_rfl) (by kernel_rfl)

set_option maxRecDepth 100000 in
theorem ran (xs : List AV) (hl : xs.length = Tryd.f4.params.toList.length) (h : ∀ (j : Nat) (t : TypeId) (c : AV), Tryd.f4.params.toList[j]? = some t → xs[j]? = some c → ArgTy Tryd.prog 8 t c) :
    callW tbl 4 xs = some (.bool true, []) := by
  rw [Tryd.params4] at hl h
  match xs, hl, h with
  | [a0, a1, a2, a3], _, h =>
    have k0 := (h 0 _ a0 rfl rfl).one (q := .sl true [.int .i64, .int .i64, .int .i64, .sl false [.int .i64], .sl false [.int .i64], .str, .bool]) (by kernel_rfl) (by kernel_rfl)
    obtain ⟨x0, rfl, b0⟩ := jbs k0
    have k1 := (h 1 _ a1 rfl rfl).one (q := .str) (by kernel_rfl) (by kernel_rfl)
    obtain ⟨x1, rfl, b1⟩ := k1.str_inv
    have k2 := (h 2 _ a2 rfl rfl).one (q := .int .i64) (by kernel_rfl) (by kernel_rfl)
    obtain ⟨x2, rfl, b2⟩ := k2.int_inv
    have k3 := (h 3 _ a3 rfl rfl).one (q := .bool) (by kernel_rfl) (by kernel_rfl)
    obtain ⟨x3, rfl⟩ := k3.bool_inv
    exact c4 x0 x1 x2 x3

set_option maxRecDepth 100000 in
theorem lifted (os : Os) (started : os.Started) (H : Type) (enc : TypeId × Value → H) :
    ReturnsInHanded {} Tryd.checked os 4 .any (fun w args => (Rows.jobsLooksSpec.pre enc Tryd.prog Tryd.f4 [] false w args ∧ laidMetH Tryd.prog laid w) ∧ sizedMet enc Tryd.prog Tryd.f4 (OpenSpec.ofChange Rows.jobsLooksSpec) false w args)
      (Rows.jobsLooksSpec.post enc Tryd.prog Tryd.f4 false true false false) := by
  refine handed_shaped_and (C := Tryd.checked) (X := fun w _ => laidMetH Tryd.prog laid w) (fun _ _ _ hh h => h.of_heap hh) own started (by kernel_rfl) Tryd.func4
    (ChangeSpec.witness_shaped (enc := enc) (C := Tryd.checked) (os := os) (X := fun w _ => laidMetH Tryd.prog laid w) false (World.doorLaid Tryd.prog 400 os) #[.slice none 0 0, .string ⟨#[]⟩, .int .i64 0, .bool false] 8 rfl (World.shaped_of_RefB (by kernel_rfl) (by kernel_rfl)) (by kernel_rfl) (by kernel_rfl) (by kernel_rfl) (door_met os _)) ?_
  intro W base args ds gs before hval0 hW hL hsh
  obtain ⟨m, hm, hms⟩ := maxlen W hsh
  have hval : ∀ (j : Nat) t v, Tryd.f4.params[j]? = some t → args[j]? = some v → Value.okWide Tryd.prog W .any base t v := hval0
  rw [MakeChecks.laidMetH_plain _ _ _ (by kernel_rfl)] at hL
  have hd : (Rows.jobsLooksSpec.fn H (ds ++ gs)).args = ds ∧ (Rows.jobsLooksSpec.fn H (ds ++ gs)).results = [.lit (.bool true)] ∧ (Rows.jobsLooksSpec.fn H (ds ++ gs)).vars = [] := by
    obtain ⟨p, q, hA0, hV, rfl, hfz, hnd⟩ := id hW
    have hA : DataW.TrodAll enc Tryd.prog W 0 (fun _ => true) true Tryd.f4.params.toList args.toList ds p := hA0
    rw [Tryd.params4] at hA
    obtain ⟨v0, vs0, d0, ds0, p0, q0, hargs, rfl, rfl, h0, r0⟩ := trodAll_cons hA
    obtain ⟨v1, vs1, d1, ds1, p1, q1, rfl, rfl, rfl, h1, r1⟩ := trodAll_cons r0
    obtain ⟨v2, vs2, d2, ds2, p2, q2, rfl, rfl, rfl, h2, r2⟩ := trodAll_cons r1
    obtain ⟨v3, vs3, d3, ds3, p3, q3, rfl, rfl, rfl, h3, r3⟩ := trodAll_cons r2
    obtain ⟨rfl, rfl, rfl⟩ := trodAll_nil r3
    obtain ⟨rfl, rfl⟩ := trodVars_none hV
    exact ⟨rfl, rfl, rfl⟩
  exact law_calls (P := Tryd.prog) (fn := Tryd.f4) (s := Rows.jobsLooksSpec) 8 (by kernel_rfl) (tblOk m) (by kernel_rfl) (by rw [Tryd.params4]; intro t ht; simp only [List.mem_cons, List.not_mem_nil, or_false] at ht; rcases ht with rfl | rfl | rfl | rfl <;> exact ⟨by kernel_rfl, of_decide_eq_true (by kernel_rfl)⟩) rfl (by kernel_rfl) Tryd.underlying4
    (by rw [Tryd.params4]; intro t ht; simp only [List.mem_cons, List.not_mem_nil, or_false] at ht; rcases ht with rfl | rfl | rfl | rfl <;> kernel_rfl) ran (globOk hm hms hL) hval hW hd.2.1 hd.1 hd.2.2

theorem over : Rows.jobsLooksRow.holds Tryd.pinned (OpenSpec.ofChange Rows.jobsLooksSpec) :=
  OpenClaim.holds_of_wide 4 Tryd.f4 rfl rfl rfl rfl rfl rfl rfl ⟨rfl, rfl, rfl, rfl, rfl⟩ rfl rfl rfl rfl rfl (by kernel_rfl) Tryd.func4 (by kernel_rfl)
    (of_decide_eq_true (by kernel_rfl)) (by unfold Func.isWrapper; first | (rw [if_pos (by decide +kernel)]; kernel_rfl) | (rw [if_neg (by decide +kernel)]; exact ⟨rfl, rfl⟩))
    (fun os started H enc _ => lifted os started H enc)

theorem proved : Rows.JobsLooksCardSaid :=
  Claim7.holds_tied_plain_at .later [] [.data, .data, .data, .data] true (true, "4efc83c5f7c56876daff528e77bd2885cf6337ea40520391bfe33da7df1f3671") false
    over (fun _ h => by cases h) (by kernel_rfl) (fun _ h => by cases h) jobsLooks_row_tie rfl ⟨rfl, rfl⟩ (by kernel_rfl) rfl
    (fun f fn hf hfn => by
      obtain rfl : f = 4 := Option.some.inj ((show Tryd.prog.funcNamed "jobshell/jobshelllaw36.JobsLooks" = some 4 by kernel_rfl).symm.trans hf) |>.symm
      obtain rfl : fn = Tryd.f4 := (Option.some.inj (Tryd.func4.symm.trans hfn)).symm
      exact ⟨by kernel_rfl, fun j t ht => by
        rw [Tryd.params4] at ht
        have hm : t ∈ [22, 9, 3, 4] := by simpa using Array.mem_of_getElem? ht
        have hall : ([22, 9, 3, 4].all fun u => !Tryd.prog.wantsStandIn u) = true := by kernel_rfl
        exact (show Tryd.prog.wantsStandIn t = false by simpa using List.all_eq_true.1 hall t hm)⟩)
    (by kernel_rfl)
#print axioms proved
end Go.Proofs.YtpphfbfmoipoaaaDoor.jobsLooks
