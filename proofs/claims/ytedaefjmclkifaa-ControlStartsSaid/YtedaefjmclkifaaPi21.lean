/- Steps of an evaluation that names its calls; what a run that gives true says of the call; the row's last step over new memory alone. No condition. -/
import Derived.Test.YtedaefjmclkifaaPi20
import Derived.Below
import Derived.ChangeSame
import Derived.WideKeyArgs
import Derived.OpenShut
import Derived.RowKit
namespace Go.PI
open Go.RowKit
theorem rest_of (tbl : Nat → Option IFn) {k : Nat} {c : IC} {e : Env} {H : List AO} {rs : List IRes} {r : AV × List AO} (h : (exN tbl k c e H).bind (finish rs) = some r) :
    (match exW tbl c e H with | some x => finish rs x | none => none) = some r := by
  cases hx : exN tbl k c e H with
  | none => rw [hx] at h; cases h
  | some x => rw [(exW_iff tbl).2 ⟨k, hx⟩]; rw [hx] at h; exact h
theorem runW_of (tbl : Nat → Option IFn) {k : Nat} {ops : List IOper} {e : Env} {H : List AO} {r : Env × List AO} (h : runOps (callN tbl k) ops e H = some r) : runOps (callW tbl) ops e H = some r :=
  runOps_mono (fun _ _ _ hc => callW_of tbl hc) ops e H r h
/-- what a call leaves in its caller's frame -/
def callRes (H : List AO) (vs : List AV) (r : AV × List AO) : AV × List AO :=
  if plainR r.1 = true ∧ r.2.isEmpty = true then (r.1, H) else (shift2 H.length r.1, frz (vs.flatMap refs1) H ++ r.2)
theorem aop_call {φ : Nat → List AV → Option (AV × List AO)} {f : Nat} {args : List OP} {e : Env} {H : List AO} {vs : List AV} {r : AV × List AO}
    (hv : (args.map (fun x : OP => x.ev e) ++ []).map (conv1 H) = vs) (h : φ f vs = some r) : aop φ (.call (.c (.fn f [])) args) e H = some (callRes H (args.map (fun x : OP => x.ev e) ++ []) r) := by
  subst hv
  show Option.map _ (φ f _) = _
  rw [h]; rfl
theorem tail_of (tbl : Nat → Option IFn) (k : Nat) {ops : List IOper} {keep : List Nat} {c : IC} {e : Env} {H : List AO} {rs : List IRes} {r : AV × List AO}
    (h : ((runOps (callN tbl k) ops e H).bind fun x => (exN tbl k c (scrub keep x.1) x.2).bind (finish rs)) = some r) :
    (match (match (match runOps (callW tbl) ops e H with
            | some r => some (Ex.normal, scrub keep r.1, r.2)
            | none => none) with
        | some (.normal, e1, H1) => exW tbl c e1 H1
        | some (.ret, e1, H1) => some (.ret, e1, H1)
        | some (.exit id, e1, H1) => some (.exit id, e1, H1)
        | none => none) with
      | some r => finish rs r
      | none => none) = some r := by
  cases hx : runOps (callN tbl k) ops e H with
  | none => rw [hx] at h; cases h
  | some x =>
    rw [hx, Option.bind_some] at h
    rw [runW_of tbl hx]
    exact rest_of tbl h
theorem runOps_append (φ : Nat → List AV → Option (AV × List AO)) : ∀ (a b : List IOper) (e : Env) (H : List AO) (r : Env × List AO), runOps φ a e H = some r → runOps φ (a ++ b) e H = runOps φ b r.1 r.2
  | [], b, e, H, r, h => by cases h; rfl
  | ⟨d, op, none⟩ :: a, b, e, H, r, h => by
    rw [runOps_op] at h
    rw [List.cons_append, runOps_op]
    cases hx : aop φ op e H with
    | none => rw [hx] at h; cases h
    | some x => rw [hx] at h; exact runOps_append φ a b _ _ r h
  | ⟨d, op, some (s, w)⟩ :: a, b, e, H, r, h => by
    rw [runOps_guard] at h
    rw [List.cons_append, runOps_guard]
    cases hw : wantedA e (some (s, w)) with
    | none => rw [hw] at h; cases h
    | some t =>
      rw [hw] at h
      cases t with
      | false => exact runOps_append φ a b _ _ r h
      | true =>
        dsimp only at h ⊢
        rw [runOps_op] at h
        rw [runOps_op]
        cases hx : aop φ op e H with
        | none => rw [hx] at h; cases h
        | some x => rw [hx] at h; exact runOps_append φ a b _ _ r h
/-- the frame after the first operations -/
def pst (tbl : Nat → Option IFn) (k : Nat) (ops : List IOper) (e : Env) (H : List AO) : Env × List AO := (runOps (callN tbl k) ops e H).getD ([], [])
theorem step_call (tbl : Nat → Option IFn) (k n : Nat) {ops : List IOper} {d : Option Nat} {f : Nat} {args : List OP} {e : Env} {H : List AO} {vs : List AV} {r : AV × List AO}
    (hc : ops[n]? = some ⟨d, .call (.c (.fn f [])) args, none⟩) (h1 : (runOps (callN tbl k) (ops.take n) e H).isSome = true)
    (hv : (args.map (fun x : OP => x.ev (pst tbl k (ops.take n) e H).1) ++ []).map (conv1 (pst tbl k (ops.take n) e H).2) = vs) (h : callW tbl f vs = some r) :
    runOps (callW tbl) ops e H = runOps (callW tbl) (ops.drop (n + 1))
      ((pst tbl k (ops.take n) e H).1.put d (callRes (pst tbl k (ops.take n) e H).2 (args.map (fun x : OP => x.ev (pst tbl k (ops.take n) e H).1) ++ []) r).1)
      (callRes (pst tbl k (ops.take n) e H).2 (args.map (fun x : OP => x.ev (pst tbl k (ops.take n) e H).1) ++ []) r).2 := by
  have ho : ops = ops.take n ++ ⟨d, .call (.c (.fn f [])) args, none⟩ :: ops.drop (n + 1) := by
    obtain ⟨hn, he⟩ := List.getElem?_eq_some_iff.1 hc
    rw [← he, ← List.drop_eq_getElem_cons hn, List.take_append_drop]
  obtain ⟨x, hx⟩ := Option.isSome_iff_exists.1 h1
  have hp : pst tbl k (ops.take n) e H = x := by rw [pst, hx]; rfl
  rw [hp] at hv ⊢
  have := runOps_append (callW tbl) (ops.take n) (⟨d, .call (.c (.fn f [])) args, none⟩ :: ops.drop (n + 1)) e H x (runW_of tbl hx)
  rw [← ho] at this
  rw [this, runOps_op, aop_call hv h]

/-- a run that gives true: the call returns true and turns nothing that was there -/
theorem true_of {P : Program} {tbl : Nat → Option IFn} (hm : P.follows .mixedOrders = true) (ht : ∀ f fn, tbl f = some fn → cFn P f = some fn) {f : Nat} {args : List AV} (h : callW tbl f args = some (.bool true, []))
    (w : World) (vs : List Value) (hl : args.length = vs.length) (hr : ∀ (j : Nat) (c : AV) (u : Value), args[j]? = some c → vs[j]? = some u → IR (fun b => b < w.heap.size) w c u) :
    Calls P f vs.toArray w fun e w' => e = .returned (.bool true) ∧ Below w.heap.size w w' := by
  refine ((callW_sound hm ht h).2 (fun b => b < w.heap.size) w vs (fun _ hb => hb) hl hr).mono ?_
  rintro en w' ⟨v, ρ', F', rfl, _, hv, hb, _⟩
  have hv := hv.vr
  cases hv with
  | imm hi => cases hi; exact ⟨rfl, hb⟩

section
open Go.RowKit Go.WideShapes Go.ChangeShapes
variable {T : Type} {enc : TypeId × Value → T} {P : Program}

/-- every argument reads behind the call as it read before -/
theorem stays {W W' : World} (hl : laidOutB P = true) {sp : Nat → Bool} : ∀ {ts : List TypeId} {vs : List Value} {ds : List (DataW T)} {ps : List MemPlace},
    (∀ t ∈ ts, P.readableRec t = true ∧ t < P.types.size) → DataW.TrodAll enc P W 0 (fun _ => true) true ts vs ds ps → (∀ p ∈ ps, W.sameAt W' p) → (∀ p ∈ ps, sp p.block = true) →
    DataW.TrodAll enc P W' 0 sp true ts vs ds ps
  | [], vs, ds, ps, _, h, _, _ => by
    obtain ⟨rfl, rfl, rfl⟩ := trodAll_nil h
    exact trodAll_mk0
  | t :: ts, vs, ds, ps, ht, h, hs, hp => by
    obtain ⟨v, vs', d, ds', p, q, rfl, rfl, rfl, h1, h2⟩ := trodAll_cons h
    obtain ⟨hr, hz⟩ := ht t (by simp)
    exact trodAll_cons_mk (WideElems.Trod_stays hl hr hz h1 (fun x hx => hs x (by simp [hx])) (fun x hx => hp x (by simp [hx])))
      (stays hl (fun t ht' => ht t (by simp [ht'])) h2 (fun x hx => hs x (by simp [hx])) (fun x hx => hp x (by simp [hx])))

/-- THE ROW's LAST STEP for a law: it returned true, all that was there is as it was. -/
theorem law_post {f : Func} {s : ChangeSpec} {apart fresh handsOn again : Bool} {W W' : World} {args : Array Value} {ds gs : List (DataW T)} {before : List MemPlace} {tb : TypeId}
    (hl : laidOutB P = true) (hread : ∀ t ∈ f.params.toList, P.readableRec t = true ∧ t < P.types.size) (hv0 : s.vars = []) (hrt : f.resultTypes = #[tb]) (hu : P.underlying tb = some .bool)
    (hW : DataW.Whole enc P f.params.toList s.vars apart W args.toList ds gs before)
    (hfr : (s.fn T (ds ++ gs)).results = [.lit (.bool true)]) (hfa : (s.fn T (ds ++ gs)).args = ds) (hfv : (s.fn T (ds ++ gs)).vars = [])
    (hb : Below W.heap.size W W') : s.post enc P f apart fresh handsOn again W args (.bool true) W' := by
  have hlt : ∀ p ∈ before, p.block < W.heap.size := fun p hp => hW.lt p hp
  have hold : ∀ p ∈ before, (fun b => decide (b < W.heap.size)) p.block = true := fun p hp => by simpa using hlt p hp
  obtain ⟨pa, pv, hA, hV, hbe, hz, hn⟩ := id hW
  rw [hv0] at hV
  obtain ⟨_, hpv⟩ := trodVars_none hV
  subst hpv
  rw [List.append_nil] at hbe
  subst hbe
  have hres : ∀ (b : Nat) (sp : Nat → Bool) (hd : Bool), DataW.TrodAll enc P W' b sp hd f.resultTypes.toList ((Value.bool true).resultList f.resultTypes.size) (s.fn T (ds ++ gs)).results [] := by
    intro b sp hd
    rw [hfr, hrt]
    exact trodAll_mk1 (shut_bool hu true)
  have hargs : ∀ sp : Nat → Bool, (∀ p ∈ before, sp p.block = true) → DataW.TrodAll enc P W' 0 sp true f.params.toList args.toList (s.fn T (ds ++ gs)).args before := by
    intro sp hsp
    rw [hfa]
    exact stays hl hread hA (fun x hx => hb.same (hlt x hx)) hsp
  have hvars : ∀ sp : Nat → Bool, DataW.TrodVars enc P W' sp s.vars (s.fn T (ds ++ gs)).vars [] := by
    intro sp
    rw [hfv, hv0]
    simp [DataW.TrodVars]
  refine ⟨ds, gs, before, [], before, [], hW, hres _ _ _, hargs _ hold, hvars _, World.keptBut_mono (fun p hp => ⟨hp, ?_⟩) (hb.frame (· ∈ before)), fun _ => ?_⟩
  · exact Or.inr (Or.inl hp)
  · refine ⟨ok_one hrt rfl (okWide_bool_mk hu true), _, _, ([] ++ before) ++ [], ⟨[] ++ before, [], trodAll_append (hargs _ (fun _ _ => rfl)) (hres _ _ _), hvars _, rfl, ?_, ?_⟩, ?_⟩
    · intro b off hp
      have hin : MemPlace.cell b off ∈ before := by simpa using hp
      rw [hb.frozen (hlt _ hin)]
      exact hz b off hin
    · intro ha
      simpa using hn ha
    · intro p hp _
      simpa using hp
end
end Go.PI
