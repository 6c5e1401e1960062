/- Steps of an evaluation that names its calls; what a run that gives true says of the call; the row's last step over new memory alone. No condition. -/
import Derived.Test.YtpphfbfmoipoaaaDoorPi20
import Derived.Below
import Derived.ChangeSame
import Derived.WideKeyArgs
import Derived.OpenShut
import Derived.RowKit
namespace Go.PI
open Go.RowKit
/-- what a call leaves in its caller's frame -/
def callRes (H : List AO) (vs : List AV) (r : AV × List AO) : AV × List AO :=
  if plainR r.1 = true ∧ r.2.isEmpty = true then (r.1, H) else (shift2 H.length r.1, frz (vs.flatMap refs1) H ++ r.2)
theorem aop_call_eq (φ : Phi) (f : Nat) (caps : List AV) (args : List OP) (e : Env) (H : List AO) :
    aop φ (.call (.c (.fn f caps)) args) e H = match φ.cl f ((args.map (fun x : OP => x.ev e) ++ caps).map (conv1 H)) with
      | some r => some (callRes H (args.map (fun x : OP => x.ev e) ++ caps) r)
      | none => none := by
  show Option.map _ (φ.cl f _) = _
  cases φ.cl f ((args.map (fun x : OP => x.ev e) ++ caps).map (conv1 H)) <;> rfl
theorem callRes_bool (H : List AO) (vs : List AV) (b : Bool) : callRes H vs (.bool b, []) = (.bool b, H) := rfl
theorem callRes_int (H : List AO) (vs : List AV) (k : IntKind) (n : Int) : callRes H vs (.int k n, []) = (.int k n, H) := rfl
theorem callRes_str (H : List AO) (vs : List AV) (s : List UInt8) : callRes H vs (.str s, []) = (.str s, H) := rfl

/-- a run that gives true: the call returns true and turns nothing that was there -/
theorem true_of {P : Program} {C : Cfg} {tbl : TB} (hm : P.follows .mixedOrders = true) (ht : TBok P C tbl) {f : Nat} {args : List AV} (h : callW tbl f args = some (.bool true, []))
    (w : World) (vs : List Value) (hg : Glob C (fun b => b < w.heap.size) w) (hl : args.length = vs.length) (hr : ∀ (j : Nat) (c : AV) (u : Value), args[j]? = some c → vs[j]? = some u → IR (fun b => b < w.heap.size) w c u) :
    Calls P f vs.toArray w fun e w' => e = .returned (.bool true) ∧ Below w.heap.size w w' := by
  refine ((callW_sound hm ht h).2 (fun b => b < w.heap.size) w vs (fun _ hb => hb) hg hl hr).mono ?_
  rintro en w' ⟨v, ρ', F', rfl, _, hv, hb, _⟩
  have hv := hv.vr
  cases hv with
  | imm hi => cases hi; exact ⟨rfl, hb⟩

section
open Go.RowKit Go.WideShapes Go.ChangeShapes
variable {T : Type} {enc : TypeId × Value → T} {P : Program}

/-- every argument reads behind the call as it read before -/
theorem stays {W W' : World} (hl : laidOutB P = true) {sp : Nat → Bool} : ∀ {ts : List TypeId} {vs : List Value} {ds : List (DataW T)} {ps : List MemPlace},
    (∀ t ∈ ts, P.readableRec t = true ∧ t < P.types.size) → DataW.TrodAll enc P W 0 (fun _ => true) true ts vs ds ps → (∀ p ∈ ps, W.sameAt W' p) → (∀ p ∈ ps, sp p.block = true) →
    DataW.TrodAll enc P W' 0 sp true ts vs ds ps
  | [], vs, ds, ps, _, h, _, _ => by
    obtain ⟨rfl, rfl, rfl⟩ := trodAll_nil h
    exact trodAll_mk0
  | t :: ts, vs, ds, ps, ht, h, hs, hp => by
    obtain ⟨v, vs', d, ds', p, q, rfl, rfl, rfl, h1, h2⟩ := trodAll_cons h
    obtain ⟨hr, hz⟩ := ht t (by simp)
    exact trodAll_cons_mk (WideElems.Trod_stays hl hr hz h1 (fun x hx => hs x (by simp [hx])) (fun x hx => hp x (by simp [hx])))
      (stays hl (fun t ht' => ht t (by simp [ht'])) h2 (fun x hx => hs x (by simp [hx])) (fun x hx => hp x (by simp [hx])))

/-- THE ROW's LAST STEP for a law: it returned true, all that was there is as it was. -/
theorem law_post {f : Func} {s : ChangeSpec} {apart fresh handsOn again : Bool} {W W' : World} {args : Array Value} {ds gs : List (DataW T)} {before : List MemPlace} {tb : TypeId}
    (hl : laidOutB P = true) (hread : ∀ t ∈ f.params.toList, P.readableRec t = true ∧ t < P.types.size) (hv0 : s.vars = []) (hrt : f.resultTypes = #[tb]) (hu : P.underlying tb = some .bool)
    (hW : DataW.Whole enc P f.params.toList s.vars apart W args.toList ds gs before)
    (hfr : (s.fn T (ds ++ gs)).results = [.lit (.bool true)]) (hfa : (s.fn T (ds ++ gs)).args = ds) (hfv : (s.fn T (ds ++ gs)).vars = [])
    (hb : Below W.heap.size W W') : s.post enc P f apart fresh handsOn again W args (.bool true) W' := by
  have hlt : ∀ p ∈ before, p.block < W.heap.size := fun p hp => hW.lt p hp
  have hold : ∀ p ∈ before, (fun b => decide (b < W.heap.size)) p.block = true := fun p hp => by simpa using hlt p hp
  obtain ⟨pa, pv, hA, hV, hbe, hz, hn⟩ := id hW
  rw [hv0] at hV
  obtain ⟨_, hpv⟩ := trodVars_none hV
  subst hpv
  rw [List.append_nil] at hbe
  subst hbe
  have hres : ∀ (b : Nat) (sp : Nat → Bool) (hd : Bool), DataW.TrodAll enc P W' b sp hd f.resultTypes.toList ((Value.bool true).resultList f.resultTypes.size) (s.fn T (ds ++ gs)).results [] := by
    intro b sp hd
    rw [hfr, hrt]
    exact trodAll_mk1 (shut_bool hu true)
  have hargs : ∀ sp : Nat → Bool, (∀ p ∈ before, sp p.block = true) → DataW.TrodAll enc P W' 0 sp true f.params.toList args.toList (s.fn T (ds ++ gs)).args before := by
    intro sp hsp
    rw [hfa]
    exact stays hl hread hA (fun x hx => hb.same (hlt x hx)) hsp
  have hvars : ∀ sp : Nat → Bool, DataW.TrodVars enc P W' sp s.vars (s.fn T (ds ++ gs)).vars [] := by
    intro sp
    rw [hfv, hv0]
    simp [DataW.TrodVars]
  refine ⟨ds, gs, before, [], before, [], hW, hres _ _ _, hargs _ hold, hvars _, World.keptBut_mono (fun p hp => ⟨hp, ?_⟩) (hb.frame (· ∈ before)), fun _ => ?_⟩
  · exact Or.inr (Or.inl hp)
  · refine ⟨ok_one hrt rfl (okWide_bool_mk hu true), _, _, ([] ++ before) ++ [], ⟨[] ++ before, [], trodAll_append (hargs _ (fun _ _ => rfl)) (hres _ _ _), hvars _, rfl, ?_, ?_⟩, ?_⟩
    · intro b off hp
      have hin : MemPlace.cell b off ∈ before := by simpa using hp
      rw [hb.frozen (hlt _ hin)]
      exact hz b off hin
    · intro ha
      simpa using hn ha
    · intro p hp _
      simpa using hp
end
end Go.PI
