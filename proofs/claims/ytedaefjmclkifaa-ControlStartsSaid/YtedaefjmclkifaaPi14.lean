/- One operation, calls among them, as a step of the walk; a region in the order of its text. No condition. -/
import Derived.Test.YtedaefjmclkifaaPi13
namespace Go.PI
open Go.RowKit

section
variable {P : Program} {B N : Nat} {F F' : Nat → Prop} {H H' : List AO} {ρ ρ' : List Value} {w w' : World} {x y : Value} {e : Env} {a : Act}

def Callee' (P : Program) (f : Nat) : Prop := ∃ fn c, P.funcs[f]? = some fn ∧ fn.body = some c ∧ (fn.name == "runtime.NumGoroutine") = false

def PhiOk (P : Program) (φ : Nat → List AV → Option (AV × List AO)) : Prop := ∀ f args res rows, φ f args = some (res, rows) → FnOk P f args res rows ∧ Callee' P f

theorem rel_append {R : AV → Value → Prop} {cs ds : List AV} {us vs : List Value} (hl : cs.length = us.length) (h1 : ∀ (j : Nat) (c : AV) (u : Value), cs[j]? = some c → us[j]? = some u → R c u)
    (h2 : ∀ (j : Nat) (c : AV) (u : Value), ds[j]? = some c → vs[j]? = some u → R c u) : ∀ (j : Nat) (c : AV) (u : Value), (cs ++ ds)[j]? = some c → (us ++ vs)[j]? = some u → R c u := by
  intro j c u hc hu
  rcases Nat.lt_or_ge j cs.length with hj | hj
  · rw [List.getElem?_append_left hj] at hc
    rw [List.getElem?_append_left (by omega)] at hu
    exact h1 j c u hc hu
  · rw [List.getElem?_append_right hj] at hc
    rw [List.getElem?_append_right (by omega), ← hl] at hu
    exact h2 _ c u hc hu

theorem call_step {φ : Nat → List AV → Option (AV × List AO)} (hφ : PhiOk P φ) {o : Oper} {fo : OP} {args : List OP} (hc : cOp P o = some (.call fo args)) (hs : Sim B F H ρ N e a w) {d : AV} (ha : aop φ (.call fo args) e H = some (d, H'))
    {K : Act → World → Prop} {Q : Exit → Act → World → Prop} (hK : ∀ v w' ρ' F', Post B F H ρ w d H' v w' ρ' F' → K (a.put o.dst v) w') : o.wp P a w K Q := by
  have hp := hs.hp
  have env : ∀ {x : Operand} {y : OP}, cOpd x = some y → VR H ρ F w (y.ev e) (a.eval x) := fun h => opd_ok hs h
  obtain ⟨dst, op, type, pos, after, guard⟩ := o
  have hop : ∃ f cargs ats, op = .call ⟨.value f, cargs, ats⟩ ∧ cOpd f = some fo ∧ cOpds cargs.toList = some args := by
    cases op with
    | call c =>
      obtain ⟨callee, cargs, ats⟩ := c
      simp only [cOp] at hc
      cases callee with
      | value f =>
        simp only at hc
        obtain ⟨f', hf', hc⟩ := Option.bind_eq_some_iff.1 hc
        obtain ⟨args', ha', hc⟩ := Option.map_eq_some_iff.1 hc
        injection hc with e1 e2; subst e1 e2
        exact ⟨f, cargs, ats, rfl, hf', ha'⟩
      | invoke r m => cases hc
      | builtin b =>
        simp only at hc
        obtain ⟨args', ha', hc⟩ := Option.bind_eq_some_iff.1 hc
        rcases cBuiltin_inv hc with ⟨_, _, _, _, _, ⟨h, _⟩ | ⟨h, _⟩⟩ | ⟨_, _, _, _, _, _, _, _, _, _, h⟩ | ⟨_, _, _, _, h⟩ | ⟨_, _, _, _, h⟩ <;> cases h
    | assign x =>
      simp only [cOp] at hc
      split at hc
      · split at hc
        · obtain ⟨_, _, h⟩ := Option.map_eq_some_iff.1 hc; cases h
        · injection hc with h; cases h
      · obtain ⟨_, _, h⟩ := Option.map_eq_some_iff.1 hc; cases h
    | move x => simp only [cOp] at hc; obtain ⟨_, _, h⟩ := Option.map_eq_some_iff.1 hc; cases h
    | pick c x y =>
      simp only [cOp] at hc
      obtain ⟨_, _, hc⟩ := Option.bind_eq_some_iff.1 hc
      obtain ⟨_, _, hc⟩ := Option.bind_eq_some_iff.1 hc
      obtain ⟨_, _, h⟩ := Option.map_eq_some_iff.1 hc; cases h
    | alloc t => simp only [cOp] at hc; obtain ⟨_, _, h⟩ := Option.map_eq_some_iff.1 hc; cases h
    | box t x =>
      simp only [cOp] at hc
      obtain ⟨_, _, hc⟩ := Option.bind_eq_some_iff.1 hc
      obtain ⟨_, _, h⟩ := Option.map_eq_some_iff.1 hc; cases h
    | build t ps =>
      simp only [cOp] at hc
      split at hc
      · obtain ⟨_, _, hc⟩ := Option.bind_eq_some_iff.1 hc
        obtain ⟨_, _, hc⟩ := Option.bind_eq_some_iff.1 hc
        obtain ⟨_, _, h⟩ := Option.map_eq_some_iff.1 hc; cases h
      · cases hc
    | buildSlice t n ps =>
      simp only [cOp] at hc
      split at hc
      · obtain ⟨_, _, hc⟩ := Option.bind_eq_some_iff.1 hc
        split at hc
        · obtain ⟨_, _, h⟩ := Option.map_eq_some_iff.1 hc; cases h
        · cases hc
      · cases hc
    | load t x =>
      simp only [cOp] at hc
      obtain ⟨_, _, hc⟩ := Option.bind_eq_some_iff.1 hc
      obtain ⟨_, _, hc⟩ := Option.bind_eq_some_iff.1 hc
      split at hc
      · injection hc with h; cases h
      · cases hc
    | store t x y =>
      simp only [cOp] at hc
      obtain ⟨_, _, hc⟩ := Option.bind_eq_some_iff.1 hc
      obtain ⟨_, _, hc⟩ := Option.bind_eq_some_iff.1 hc
      obtain ⟨_, _, h⟩ := Option.map_eq_some_iff.1 hc; cases h
    | nilCheck x => simp only [cOp] at hc; obtain ⟨_, _, h⟩ := Option.map_eq_some_iff.1 hc; cases h
    | binOp op t x y yt =>
      simp only [cOp] at hc
      obtain ⟨_, _, hc⟩ := Option.bind_eq_some_iff.1 hc
      obtain ⟨_, _, hc⟩ := Option.bind_eq_some_iff.1 hc
      split at hc
      · obtain ⟨_, _, hc⟩ := Option.bind_eq_some_iff.1 hc
        split at hc
        · split at hc
          · injection hc with h; cases h
          · injection hc with h; cases h
          · cases hc
        · cases hc
      · injection hc with h; cases h
      · injection hc with h; cases h
      · split at hc
        · injection hc with h; cases h
        · injection hc with h; cases h
        · cases hc
      · cases hc
    | unOp op t x => simp only [cOp] at hc; obtain ⟨_, _, h⟩ := Option.map_eq_some_iff.1 hc; cases h
    | convert s t x =>
      simp only [cOp] at hc
      split at hc
      · obtain ⟨_, _, h⟩ := Option.map_eq_some_iff.1 hc; cases h
      · obtain ⟨_, _, h⟩ := Option.map_eq_some_iff.1 hc; cases h
      · cases hc
    | slice t x lo hi mx =>
      simp only [cOp] at hc
      obtain ⟨_, _, hc⟩ := Option.bind_eq_some_iff.1 hc
      split at hc
      · obtain ⟨_, _, hc⟩ := Option.bind_eq_some_iff.1 hc
        obtain ⟨_, _, hc⟩ := Option.bind_eq_some_iff.1 hc
        obtain ⟨_, _, h⟩ := Option.map_eq_some_iff.1 hc; cases h
      · obtain ⟨_, _, hc⟩ := Option.bind_eq_some_iff.1 hc
        obtain ⟨_, _, h⟩ := Option.map_eq_some_iff.1 hc; cases h
      · obtain ⟨_, _, hc⟩ := Option.bind_eq_some_iff.1 hc
        split at hc
        · split at hc
          · injection hc with h; cases h
          · cases hc
        · cases hc
      · cases hc
    | fieldAddr t x k =>
      simp only [cOp] at hc
      split at hc
      · obtain ⟨_, _, hc⟩ := Option.bind_eq_some_iff.1 hc
        obtain ⟨_, _, hc⟩ := Option.bind_eq_some_iff.1 hc
        split at hc
        · cases hc
        · obtain ⟨_, _, h⟩ := Option.map_eq_some_iff.1 hc; cases h
      · cases hc
    | field t x k =>
      simp only [cOp] at hc
      split at hc
      · obtain ⟨_, _, hc⟩ := Option.bind_eq_some_iff.1 hc
        obtain ⟨_, _, hc⟩ := Option.bind_eq_some_iff.1 hc
        split at hc
        · obtain ⟨_, _, h⟩ := Option.map_eq_some_iff.1 hc; cases h
        · cases hc
      · cases hc
    | indexAddr t x i =>
      simp only [cOp] at hc
      split at hc
      · obtain ⟨_, _, hc⟩ := Option.bind_eq_some_iff.1 hc
        obtain ⟨_, _, hc⟩ := Option.bind_eq_some_iff.1 hc
        obtain ⟨_, _, h⟩ := Option.map_eq_some_iff.1 hc; cases h
      · cases hc
    | index t x i =>
      simp only [cOp] at hc
      split at hc
      · obtain ⟨_, _, hc⟩ := Option.bind_eq_some_iff.1 hc
        obtain ⟨_, _, h⟩ := Option.map_eq_some_iff.1 hc; cases h
      · cases hc
    | extract x i => simp only [cOp] at hc; obtain ⟨_, _, h⟩ := Option.map_eq_some_iff.1 hc; cases h
    | makeSlice t n c =>
      simp only [cOp] at hc
      split at hc
      · obtain ⟨_, _, hc⟩ := Option.bind_eq_some_iff.1 hc
        obtain ⟨_, _, hc⟩ := Option.bind_eq_some_iff.1 hc
        obtain ⟨_, _, h⟩ := Option.map_eq_some_iff.1 hc; cases h
      · cases hc
    | makeFunc fn first caps =>
      cases fn with
      | func f =>
        simp only [cOp] at hc
        split at hc
        · obtain ⟨_, _, h⟩ := Option.map_eq_some_iff.1 hc; cases h
        · cases hc
      | _ => simp [cOp] at hc
    | _ => simp [cOp] at hc
  obtain ⟨f, cargs, ats, rfl, hf, hargs⟩ := hop
  simp only [aop] at ha
  split at ha
  case h_2 => cases ha
  rename_i fid caps hfv
  have hfun := env hf
  rw [hfv] at hfun
  obtain ⟨capV, hfe, hcl, hcr⟩ := hfun.fn_inv
  obtain ⟨r, hr, ha⟩ := Option.map_eq_some_iff.1 ha
  obtain ⟨res, rows⟩ := r
  obtain ⟨⟨hrow, hfn⟩, fn, code, hfn1, hfn2, hfn3⟩ := hφ _ _ _ _ hr
  obtain ⟨hal, har⟩ := opds_ok (e := e) (a := a) env cargs.toList args hargs
  let vs := args.map (fun x => x.ev e) ++ caps
  let cv := cargs.toList.map a.eval ++ capV
  have hvl : vs.length = cv.length := by simp [vs, cv, hal, hcl]
  have hvr : ∀ (j : Nat) (c : AV) (u : Value), vs[j]? = some c → cv[j]? = some u → VR H ρ F w c u := rel_append (by simp [hal]) har hcr
  obtain ⟨F1, hp1, ev1, hF1, hF1b, hlen1, hF1r⟩ := hp.frz (vs.flatMap refs1)
  have hcalls := hfn F1 w cv hp1.fb (by simpa [vs] using hvl) (fun j c u hc hu => by
    rw [List.getElem?_map] at hc
    obtain ⟨c0, hc0, rfl⟩ := Option.map_eq_some_iff.1 hc
    exact conv1_ir hp (hvr j c0 u hc0 hu) hF1 (fun id T s g es v0 b h1 h2 h3 h4 => hF1r id T s g es v0 b h1 h2 h3 (List.mem_flatMap.2 ⟨c0, List.mem_of_getElem? hc0, h4⟩)))
  have hrun : (execOp a.eval ⟨dst, .call ⟨.value f, cargs, ats⟩, type, pos, after, guard⟩).run P w = .ok (.enter fid cv.toArray) w := by
    have hca : cargs.map a.eval ++ capV.toArray = cv.toArray := by
      apply Array.ext'; simp [cv]
    simp [execOp, resolve, hfe, Deferred.ofValue, invoke, callFunc, hfn1, hfn2, hca]
    simpa using hfn3
  unfold Oper.wp
  rw [hrun, Oper.upon_enter]
  refine hcalls.mono ?_
  rintro en w' ⟨v, σ, F2, rfl, hR, hres, hb, hF2, hF2b⟩
  simp only
  split at ha
  · rename_i hplain
    simp only [Prod.mk.injEq] at ha
    obtain ⟨rfl, rfl⟩ := ha
    refine hK v w' ρ F ⟨hp.grow hb, plainR_vr hplain.1 hres.vr, Ev.refl _ _, Kept.of_below hb, fun _ x => x, fun _ x => .inl x⟩
  · simp only [Prod.mk.injEq] at ha
    obtain ⟨rfl, rfl⟩ := ha
    have hjoin := hp1.join hR hrow hb hF2 hF2b
    have hl1 : ρ.length = (frz (vs.flatMap refs1) H).length := hp1.len
    have hval := shift2_ok hl1 hres
    rw [hlen1] at hval
    refine hK v w' (ρ ++ σ) F2 ⟨hjoin, hval, ev1.trans (Ev.push _ _ _ _ hp1.len), ?_, fun b hb' => hF2 b (hF1 b hb'), fun b hb' => ?_⟩
    · exact ⟨hb.os, hb.tape, hb.output, hb.size, fun k hk _ => hb.block k hk⟩
    · rcases hF2b b hb' with h | h
      · exact hF1b b h
      · exact .inr (Nat.le_trans hp.base h)

/-- One operation. -/
theorem step_sound {φ : Nat → List AV → Option (AV × List AO)} (hφ : PhiOk P φ) {o : Oper} {iop : IOp} (hc : cOp P o = some iop) (hs : Sim B F H ρ N e a w) {d : AV} (ha : aop φ iop e H = some (d, H'))
    {K : Act → World → Prop} {Q : Exit → Act → World → Prop} (hK : ∀ v w' ρ' F', Post B F H ρ w d H' v w' ρ' F' → K (a.put o.dst v) w') : o.wp P a w K Q := by
  cases hcall : iop.isCall with
  | true =>
    cases iop <;> simp [IOp.isCall] at hcall
    exact call_step hφ hc hs ha hK
  | false =>
    obtain ⟨v, w', ρ', F', hy, hpost⟩ := op_sound hc hs ha hcall
    unfold Oper.wp
    rcases hy with hy | ⟨hy, rfl⟩
    · rw [hy, Oper.upon_value]; exact hK v w' ρ' F' hpost
    · rw [hy, Oper.upon_skip]; exact hK undef w' ρ' F' hpost

theorem getD_put {tmps : Array Value} {d : Nat} {v : Value} (hd : d < tmps.size) (i : Nat) : (tmps.setIfInBounds d v).getD i undef = if d = i then v else tmps.getD i undef := by
  simp only [Array.getD_eq_getD_getElem?, Array.getElem?_setIfInBounds]
  split
  · rename_i h; subst h; simp [hd]
  · rfl

/-- The frame behind an operation. -/
theorem Sim.step (hs : Sim B F H ρ N e a w) {d : AV} {v : Value} (hp : Post B F H ρ w d H' v w' ρ' F') {dst : Option Nat} (hd : ∀ k, dst = some k → k < N) : Sim B F' H' ρ' N (e.put dst d) (a.put dst v) w' := by
  have hw : ∀ b, F b → w'.heap[b]? = w.heap[b]? := fun b hb => hp.kept.block b (hs.hp.fb b hb) (.inr hb)
  cases dst with
  | none => exact ⟨hp.hp, hs.defers, hs.size, fun i => (hs.env i).mono hp.ev hp.sub hw⟩
  | some k =>
    refine ⟨hp.hp, hs.defers, by simp [Act.put, hs.size], fun i => ?_⟩
    simp only [Act.put, Env.put, Env.get]
    rw [getD_put (by rw [hs.size]; exact hd k rfl)]
    split
    · exact hp.val
    · exact (hs.env i).mono hp.ev hp.sub hw

theorem Sim.skip (hs : Sim B F H ρ N e a w) {dst : Option Nat} (hd : ∀ k, dst = some k → k < N) : Sim B F H ρ N (e.put dst (.tup [])) (a.put dst undef) w :=
  hs.step (Post.quiet hs.hp VR.tup0) hd

/-- Is the operation carried out? -/
theorem wanted_ok (hs : Sim B F H ρ N e a w) {ops : Array Oper} {o : Oper} {io : IOper} (hc : cOper P N ops o = some io) {b : Bool} (h : wantedA e io.guard = some b) : Region.wanted o (yielded ops a.tmps) = b := by
  unfold cOper at hc
  obtain ⟨op, hop, hc⟩ := Option.bind_eq_some_iff.1 hc
  split at hc
  case isFalse => cases hc
  cases hg : o.guard with
  | none =>
    rw [hg] at hc
    simp at hc; subst hc
    simp [wantedA] at h
    simp [Region.wanted, hg, h]
  | some q =>
    obtain ⟨j, want⟩ := q
    rw [hg] at hc
    obtain ⟨d, hd, hc⟩ := Option.bind_eq_some_iff.1 hc
    split at hc
    case isFalse => cases hc
    rename_i hdN
    injection hc with hc; subst hc
    simp only [wantedA] at h
    have hv := hs.env d
    have hget : a.tmps[d]? = some (a.tmps.getD d undef) := by
      have : d < a.tmps.size := by rw [hs.size]; exact hdN
      simp [Array.getD_eq_getD_getElem?, this]
    simp only [Region.wanted, hg, yielded, hd, Option.bind_some, hget]
    split at h
    · rename_i b0 hb0
      rw [hb0] at hv
      rw [hv.bool_inv]
      obtain rfl : (b0 == want) = b := by simpa using h
      cases b0 <;> cases want <;> rfl
    · rename_i ht
      rw [ht] at hv
      obtain ⟨us, he, hl, _⟩ := hv.tup_inv
      rw [he]
      obtain rfl : false = b := by simpa using h
      rfl
    · cases h

theorem cOper_spec {ops : Array Oper} {o : Oper} {io : IOper} (hc : cOper P N ops o = some io) : cOp P o = some io.op ∧ io.dst = o.dst ∧ ∀ k, o.dst = some k → k < N := by
  unfold cOper at hc
  obtain ⟨op, hop, hc⟩ := Option.bind_eq_some_iff.1 hc
  split at hc
  case isFalse => cases hc
  rename_i hd
  have hd' : ∀ k, o.dst = some k → k < N := by intro k hk; rw [hk] at hd; simpa [dstOk] using hd
  split at hc
  · injection hc with hc; subst hc; exact ⟨hop, rfl, hd'⟩
  · obtain ⟨d, _, hc⟩ := Option.bind_eq_some_iff.1 hc
    split at hc
    · injection hc with hc; subst hc; exact ⟨hop, rfl, hd'⟩
    · cases hc

/-- What holds behind a piece of code. -/
structure After (B : Nat) (F : Nat → Prop) (H : List AO) (ρ : List Value) (w : World) (N : Nat) (e' : Env) (H' : List AO) (a' : Act) (w' : World) (ρ' : List Value) (F' : Nat → Prop) : Prop where
  sim : Sim B F' H' ρ' N e' a' w'
  ev : Ev H ρ H' ρ'
  kept : Kept B F w w'
  sub : ∀ b, F b → F' b
  bnd : ∀ b, F' b → F b ∨ B ≤ b

theorem After.refl (hs : Sim B F H ρ N e a w) : After B F H ρ w N e H a w ρ F := ⟨hs, Ev.refl _ _, Kept.refl _ _ _, fun _ x => x, fun _ x => .inl x⟩

theorem After.trans {a1 a2 : Act} {w1 w2 : World} {ρ1 ρ2 : List Value} {F1 F2 : Nat → Prop} {e1 e2 : Env} {H1 H2 : List AO} (h : After B F H ρ w N e1 H1 a1 w1 ρ1 F1) (k : After B F1 H1 ρ1 w1 N e2 H2 a2 w2 ρ2 F2) : After B F H ρ w N e2 H2 a2 w2 ρ2 F2 :=
  ⟨k.sim, h.ev.trans k.ev, h.kept.trans k.kept h.sub, fun b hb => k.sub b (h.sub b hb), fun b hb => (k.bnd b hb).elim (h.bnd b) .inr⟩

theorem After.of_post (hs : Sim B F H ρ N e a w) {d : AV} {v : Value} (hp : Post B F H ρ w d H' v w' ρ' F') {dst : Option Nat} (hd : ∀ k, dst = some k → k < N) : After B F H ρ w N (e.put dst d) H' (a.put dst v) w' ρ' F' :=
  ⟨hs.step hp hd, hp.ev, hp.kept, hp.sub, hp.bnd⟩

/-- A region in the order of its text. -/
theorem ops_sound {φ : Nat → List AV → Option (AV × List AO)} (hφ : PhiOk P φ) {ops : Array Oper} {Q : Exit → Act → World → Prop} : ∀ (l : List Oper) (is : List IOper) (e : Env) (H : List AO) (ρ : List Value) (F : Nat → Prop) (a : Act) (w : World) (e' : Env) (H' : List AO),
    cOpers P N ops l = some is → runOps φ is e H = some (e', H') → Sim B F H ρ N e a w → (∀ a' w' ρ' F', After B F H ρ w N e' H' a' w' ρ' F' → Q .normal a' w') → wpList P ops Q l a w
  | [], is, e, H, ρ, F, a, w, e', H', hc, hr, hs, hQ => by
    simp [cOpers] at hc; subst hc
    simp [runOps] at hr
    obtain ⟨rfl, rfl⟩ := hr
    exact hQ a w ρ F (After.refl hs)
  | o :: r, is, e, H, ρ, F, a, w, e', H', hc, hr, hs, hQ => by
    simp only [cOpers] at hc
    obtain ⟨io, hio, hc⟩ := Option.bind_eq_some_iff.1 hc
    obtain ⟨is', his, rfl⟩ := Option.map_eq_some_iff.1 hc
    simp only [runOps] at hr
    obtain ⟨b, hb, hr⟩ := Option.bind_eq_some_iff.1 hr
    have hw := wanted_ok hs hio hb
    obtain ⟨hop, hdst, hdN⟩ := cOper_spec hio
    unfold wpList
    rw [hw]
    cases b with
    | true =>
      simp only [if_true] at hr ⊢
      obtain ⟨q, hq, hr⟩ := Option.bind_eq_some_iff.1 hr
      left
      refine step_sound hφ hop hs hq (fun v w' ρ' F' hpost => ?_)
      have haft := After.of_post hs hpost hdN
      rw [hdst] at hr
      exact ops_sound hφ r is' _ _ ρ' F' _ w' e' H' his hr haft.sim (fun a2 w2 ρ2 F2 h2 => hQ a2 w2 ρ2 F2 (haft.trans h2))
    | false =>
      simp only [Bool.false_eq_true, if_false] at hr ⊢
      have haft := After.of_post hs (Post.quiet hs.hp VR.tup0) hdN
      rw [hdst] at hr
      exact ops_sound hφ r is' _ _ ρ F _ w e' H' his hr haft.sim (fun a2 w2 ρ2 F2 h2 => hQ a2 w2 ρ2 F2 (haft.trans h2))

end
end Go.PI
