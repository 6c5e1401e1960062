/- A region that draws its order: whatever order the edges allow, it ends as in the order of its text. No condition. -/
import Derived.Test.YtpphfbfmoipoaaaDoorPi17
namespace Go.PI
open Go.RowKit

section
variable {P : Program} {C : Cfg} {at_ : Bool} {B N : Nat} {φ : Phi}

theorem get_put (e : Env) (d : Option Nat) (v : AV) (t : Nat) : (e.put d v).get t = if d = some t then v else e.get t := by
  cases d with
  | none => simp [Env.put]
  | some i => simp only [Env.put, Env.get, Option.some.injEq]

theorem wanted_congr {e e' : Env} {g : Option (Nat × Bool)} (h : ∀ t ∈ gTmps g, e.get t = e'.get t) : wantedA e g = wantedA e' g := by
  cases g with
  | none => rfl
  | some q =>
    obtain ⟨s, w⟩ := q
    simp only [wantedA, h s (by simp [gTmps])]

theorem runOps_cons (o : IOper) (r : List IOper) (e : Env) (H : List AO) : runOps φ (o :: r) e H = (runOps φ [o] e H).bind fun x => runOps φ r x.1 x.2 := by
  simp only [runOps]
  cases wantedA e o.guard with
  | none => rfl
  | some b =>
    simp only [Option.bind_some]
    cases b with
    | true =>
      simp only [if_true]
      cases aop φ o.op e H <;> rfl
    | false => rfl

theorem get_scr {e e' : Env} (h : ∀ t, e.get t = e'.get t) (l : Option (List Nat)) (t : Nat) : (scr l e).get t = (scr l e').get t := by
  cases l with
  | none => exact h t
  | some k =>
    show (scrub k e).get t = (scrub k e').get t
    unfold scrub
    congr 1
    exact List.map_congr_left (fun i _ => by rw [h i])

theorem runOps_ext : ∀ (l : List IOper) {e e' : Env} {H : List AO} {r : Env × List AO}, (∀ t, e.get t = e'.get t) → runOps φ l e H = some r → ∃ e2, runOps φ l e' H = some (e2, r.2) ∧ ∀ t, e2.get t = r.1.get t
  | [], e, e', H, r, he, h => by
    simp only [runOps, Option.some.injEq] at h
    subst h
    exact ⟨e', rfl, fun t => (he t).symm⟩
  | o :: l, e, e', H, r, he, h => by
    simp only [runOps] at h ⊢
    obtain ⟨b, hb, h⟩ := Option.bind_eq_some_iff.1 h
    rw [← wanted_congr (e := e) (e' := e') (fun t _ => he t), hb]
    simp only [Option.bind_some]
    cases b with
    | true =>
      simp only [if_true] at h ⊢
      obtain ⟨q, hq, h⟩ := Option.bind_eq_some_iff.1 h
      rw [← aop_congr (e := e) (e' := e') (fun t _ => he t), hq]
      simp only [Option.bind_some]
      exact runOps_ext l (fun t => get_scr (fun t => by rw [get_put, get_put, he t]) o.live t) h
    | false =>
      simp only [Bool.false_eq_true, if_false] at h ⊢
      exact runOps_ext l (fun t => get_scr (fun t => by rw [get_put, get_put, he t]) o.live t) h

/-- an operation of the program's -/
def OpOf (P : Program) (C : Cfg) (N : Nat) (at_ : Bool) (ops : Array Oper) (io : IOper) : Prop := (∃ o, cOper P C N at_ ops o = some io) ∧ constOk io = true ∧ io.live = none

/-- some memory fits -/
def Fits (C : Cfg) (N : Nat) (e : Env) (H : List AO) : Prop := ∃ B F ρ a w, Sim C B F H ρ N e a w

theorem Fits.step (hφ : PhiOk C P φ) {ops : Array Oper} {io : IOper} (ho : OpOf P C N at_ ops io) {e e1 : Env} {H H1 : List AO} (hf : Fits C N e H) (h : runOps φ [io] e H = some (e1, H1)) : Fits C N e1 H1 := by
  obtain ⟨B, F, ρ, a, w, hs⟩ := hf
  obtain ⟨⟨o, hcio⟩, _, hlive⟩ := ho
  obtain ⟨hop, hdst, hdN⟩ := cOper_spec hcio
  simp only [runOps] at h
  obtain ⟨b, hb, h⟩ := Option.bind_eq_some_iff.1 h
  cases b with
  | false =>
    simp only [hlive, scr, Bool.false_eq_true, if_false, Option.some.injEq, Prod.mk.injEq] at h
    obtain ⟨rfl, rfl⟩ := h
    rw [hdst]
    exact ⟨B, F, ρ, _, w, hs.skip hdN⟩
  | true =>
    simp only [if_true] at h
    obtain ⟨q, hq, h⟩ := Option.bind_eq_some_iff.1 h
    simp only [hlive, scr, Option.some.injEq, Prod.mk.injEq] at h
    obtain ⟨rfl, rfl⟩ := h
    rw [hdst]
    have hwp := step_sound hφ hop hs hq (K := fun a' w' => ∃ ρ' F', Sim C B F' q.2 ρ' N (e.put o.dst q.1) a' w') (Q := fun _ _ _ => False) (fun v w' ρ' F' hpost => ⟨ρ', F', hs.step hpost hdN⟩)
    unfold Oper.wp Oper.upon at hwp
    split at hwp
    · obtain ⟨ρ', F', hh⟩ := hwp; exact ⟨B, F', ρ', _, _, hh⟩
    · obtain ⟨ρ', F', hh⟩ := hwp; exact ⟨B, F', ρ', _, _, hh⟩
    · obtain ⟨ρ', F', hh⟩ := hwp; exact ⟨B, F', ρ', _, _, hh⟩
    · obtain ⟨en, w', fr, hR, _⟩ := hwp []
      cases en with
      | returned v => obtain ⟨ρ', F', hh⟩ := hR; exact ⟨B, F', ρ', _, _, hh⟩
      | panicked ch => exact hR.elim
      | outgrown => obtain ⟨_, _, hh⟩ := hR; exact hh.elim
    · obtain ⟨v, w', hR, _⟩ := hwp default []
      obtain ⟨ρ', F', hh⟩ := hR; exact ⟨B, F', ρ', _, _, hh⟩
    · exact hwp.elim
    · exact hwp.elim

theorem swap (hφ : PhiOk C P φ) {ops : Array Oper} {p q : IOper} (hp : OpOf P C N at_ ops p) (hq : OpOf P C N at_ ops q) (hsw : okSwap p q = true) {e e2 : Env} {H H2 : List AO} (hf : Fits C N e H)
    (h : runOps φ [p, q] e H = some (e2, H2)) : ∃ e3, runOps φ [q, p] e H = some (e3, H2) ∧ ∀ t, e3.get t = e2.get t := by
  obtain ⟨B, F, ρ, a, w, hs⟩ := hf
  simp only [okSwap, Bool.and_eq_true, depFree] at hsw
  obtain ⟨⟨hd1, hd2⟩, hcl⟩ := hsw
  have pq : ∀ (v : AV) t, t ∈ useO q → (e.put p.dst v).get t = e.get t := by
    intro v t ht
    rw [get_put]
    split
    · rename_i hd
      rw [hd] at hd1
      simp [ht] at hd1
    · rfl
  have qp : ∀ (v : AV) t, t ∈ useO p → (e.put q.dst v).get t = e.get t := by
    intro v t ht
    rw [get_put]
    split
    · rename_i hd
      rw [hd] at hd2
      simp [ht] at hd2
    · rfl
  have fin : ∀ (v u : AV) t, ((e.put q.dst u).put p.dst v).get t = ((e.put p.dst v).put q.dst u).get t := by
    intro v u t
    simp only [get_put]
    by_cases h1 : p.dst = some t <;> by_cases h2 : q.dst = some t <;> simp [h1, h2]
    rw [h1] at hd1
    simp [h2] at hd1
  have lp := hp.2.2
  have lq := hq.2.2
  simp only [runOps, lp, lq, scr] at h
  obtain ⟨bp, hbp, h⟩ := Option.bind_eq_some_iff.1 h
  have wq : ∀ v, wantedA (e.put p.dst v) q.guard = wantedA e q.guard := fun v => wanted_congr (fun t ht => pq v t (by simp [useO, ht]))
  have wp : ∀ v, wantedA (e.put q.dst v) p.guard = wantedA e p.guard := fun v => wanted_congr (fun t ht => qp v t (by simp [useO, ht]))
  have aq : ∀ v G, aop φ q.op (e.put p.dst v) G = aop φ q.op e G := fun v G => aop_congr (fun t ht => pq v t (by simp [useO, ht]))
  have ap : ∀ v G, aop φ p.op (e.put q.dst v) G = aop φ p.op e G := fun v G => aop_congr (fun t ht => qp v t (by simp [useO, ht]))
  cases bp with
  | true =>
    simp only [if_true] at h
    obtain ⟨⟨v, H1⟩, hv, h⟩ := Option.bind_eq_some_iff.1 h
    simp only [wq] at h
    obtain ⟨bq, hbq, h⟩ := Option.bind_eq_some_iff.1 h
    cases bq with
    | true =>
      simp only [if_true, aq] at h
      obtain ⟨⟨u, H2'⟩, hu, h⟩ := Option.bind_eq_some_iff.1 h
      simp only [Option.some.injEq, Prod.mk.injEq] at h
      obtain ⟨rfl, rfl⟩ := h
      obtain ⟨H3, h3, h4⟩ := comm hφ hs hp.2.1 hq.2.1 hcl hv hu
      refine ⟨(e.put q.dst u).put p.dst v, ?_, fin v u⟩
      simp only [runOps, lp, lq, scr, hbq, Option.bind_some, if_true, h3, wp, hbp, ap, h4]
    | false =>
      simp only [Bool.false_eq_true, if_false, Option.some.injEq, Prod.mk.injEq] at h
      obtain ⟨rfl, rfl⟩ := h
      refine ⟨(e.put q.dst (.tup [])).put p.dst v, ?_, fin v (.tup [])⟩
      simp only [runOps, lp, lq, scr, hbq, Option.bind_some, Bool.false_eq_true, if_false, if_true, wp, hbp, ap, hv]
  | false =>
    simp only [Bool.false_eq_true, if_false, wq] at h
    obtain ⟨bq, hbq, h⟩ := Option.bind_eq_some_iff.1 h
    cases bq with
    | true =>
      simp only [if_true, aq] at h
      obtain ⟨⟨u, H2'⟩, hu, h⟩ := Option.bind_eq_some_iff.1 h
      simp only [Option.some.injEq, Prod.mk.injEq] at h
      obtain ⟨rfl, rfl⟩ := h
      refine ⟨(e.put q.dst u).put p.dst (.tup []), ?_, fin (.tup []) u⟩
      simp only [runOps, lp, lq, scr, hbq, Option.bind_some, if_true, hu, wp, hbp, Bool.false_eq_true, if_false]
    | false =>
      simp only [Bool.false_eq_true, if_false, Option.some.injEq, Prod.mk.injEq] at h
      obtain ⟨rfl, rfl⟩ := h
      refine ⟨(e.put q.dst (.tup [])).put p.dst (.tup []), ?_, fin (.tup []) (.tup [])⟩
      simp only [runOps, lp, lq, scr, hbq, Option.bind_some, Bool.false_eq_true, if_false, wp, hbp]

theorem bubble (hφ : PhiOk C P φ) {ops : Array Oper} {j : IOper} (hj : OpOf P C N at_ ops j) {L2 : List IOper} : ∀ (L1 : List IOper), (∀ p ∈ L1, OpOf P C N at_ ops p ∧ okSwap p j = true) → ∀ {e e2 : Env} {H H2 : List AO}, Fits C N e H →
    runOps φ (L1 ++ j :: L2) e H = some (e2, H2) → ∃ e3, runOps φ (j :: (L1 ++ L2)) e H = some (e3, H2) ∧ ∀ t, e3.get t = e2.get t
  | [], _, e, e2, H, H2, _, h => ⟨e2, h, fun _ => rfl⟩
  | p :: L1, hL, e, e2, H, H2, hf, h => by
    rw [List.cons_append, runOps_cons] at h
    obtain ⟨⟨e1, H1⟩, h1, h⟩ := Option.bind_eq_some_iff.1 h
    simp only at h
    have hf1 := hf.step hφ (hL p (by simp)).1 h1
    obtain ⟨e3, h3, he3⟩ := bubble hφ hj L1 (fun q hq => hL q (by simp [hq])) hf1 h
    rw [runOps_cons] at h3
    obtain ⟨⟨e4, H4⟩, h4, h3⟩ := Option.bind_eq_some_iff.1 h3
    simp only at h3
    have hpj : runOps φ [p, j] e H = some (e4, H4) := by
      rw [runOps_cons, h1]; exact h4
    obtain ⟨e5, h5, he5⟩ := swap hφ (hL p (by simp)).1 hj (hL p (by simp)).2 hf hpj
    obtain ⟨e6, h6, he6⟩ := runOps_ext (L1 ++ L2) (fun t => (he5 t).symm) h3
    refine ⟨e6, ?_, fun t => (he6 t).trans (he3 t)⟩
    rw [runOps_cons] at h5
    obtain ⟨⟨e7, H7⟩, h7, h5⟩ := Option.bind_eq_some_iff.1 h5
    rw [runOps_cons, h7]
    simp only [Option.bind_some]
    simp only at h5
    rw [List.cons_append, runOps_cons, h5]
    exact h6

theorem Sim.congr {F : Nat → Prop} {H : List AO} {ρ : List Value} {e e' : Env} {a : Act} {w : World} (h : Sim C B F H ρ N e a w) (he : ∀ t, e'.get t = e.get t) : Sim C B F H ρ N e' a w :=
  ⟨h.hp, h.defers, h.size, fun i => by rw [he i]; exact h.env i, h.glob⟩

theorem After.congr {F F' : Nat → Prop} {H H' : List AO} {ρ ρ' : List Value} {w w' : World} {e e' : Env} {a' : Act} (h : After C B F H ρ w N e H' a' w' ρ' F') (he : ∀ t, e'.get t = e.get t) : After C B F H ρ w N e' H' a' w' ρ' F' :=
  ⟨h.sim.congr he, h.ev, h.kept, h.sub, h.bnd⟩

theorem cOper_live {ops : Array Oper} {o : Oper} {io : IOper} (hc : cOper P C N at_ ops o = some io) : io.live = none := by
  unfold cOper at hc
  obtain ⟨op, hop, hc⟩ := Option.bind_eq_some_iff.1 hc
  split at hc
  case isFalse => cases hc
  split at hc
  · injection hc with hc; subst hc; rfl
  · obtain ⟨d, _, hc⟩ := Option.bind_eq_some_iff.1 hc
    split at hc
    · injection hc with hc; subst hc; rfl
    · cases hc

theorem cOpers_at {ops : Array Oper} : ∀ (l : List Oper) (is : List IOper), cOpers P C N at_ ops l = some is → is.length = l.length ∧ ∀ (j : Nat) (o : Oper), l[j]? = some o → ∃ io, is[j]? = some io ∧ cOper P C N at_ ops o = some io
  | [], is, h => by simp [cOpers] at h; subst h; exact ⟨rfl, fun j o hj => by simp at hj⟩
  | x :: r, is, h => by
    simp only [cOpers] at h
    obtain ⟨io, hio, h⟩ := Option.bind_eq_some_iff.1 h
    obtain ⟨is', his, rfl⟩ := Option.map_eq_some_iff.1 h
    obtain ⟨h1, h2⟩ := cOpers_at r is' his
    refine ⟨by simp [h1], fun j o hj => ?_⟩
    cases j with
    | zero => simp at hj; subst hj; exact ⟨io, rfl, hio⟩
    | succ j => exact h2 j o (by simpa using hj)

structure DrawFacts (ops : List Oper) (is : List IOper) : Prop where
  const : ∀ o ∈ is, constOk o = true
  back : ∀ (j : Nat) (o : Oper) (ed : Edge), ops[j]? = some o → ed ∈ o.after.toList → Region.binds .any ed = true → ed.on < j
  conf : ∀ (i j : Nat) (a b : IOper), i < j → is[i]? = some a → is[j]? = some b → okSwap a b = true ∨ ((befs ops []).getD j 0).testBit i = true

theorem drawFacts {ops : List Oper} {is : List IOper} (h : drawOk ops is = true) : DrawFacts ops is := by
  unfold drawOk at h
  simp only [Bool.and_eq_true, List.all_eq_true] at h
  obtain ⟨⟨h0, h1⟩, h2⟩ := h
  refine ⟨h0, fun j o ed hj hm hb => ?_, fun i j a b hij hi hj => ?_⟩
  · have := h1 (o, j) (by rw [List.mem_zipIdx_iff_getElem?]; exact hj) ed hm
    simpa [hb] using this
  · have hlt := lt_of_some hj
    have := h2 (b, j) (by rw [List.mem_zipIdx_iff_getElem?]; exact hj) (a, i) (by rw [List.mem_zipIdx_iff_getElem?, List.getElem?_take, if_pos hij]; exact hi)
    simpa using this

/-- What has been carried out: closed under 'comes before'. -/
def Closed (ops : List Oper) (S : Nat → Bool) : Prop := ∀ j i, S j = true → ((befs ops []).getD j 0).testBit i = true → S i = true

/-- what is left, in the order of the text -/
def left (is : List IOper) (un : Nat → Bool) : List IOper := ((List.range is.length).filter un).filterMap (is[·]?)

theorem left_split {is : List IOper} {un : Nat → Bool} {j : Nat} {io : IOper} (hj : is[j]? = some io) (hun : un j = true) :
    left is un = ((List.range j).filter un).filterMap (is[·]?) ++ io :: (((List.range' (j + 1) (is.length - (j + 1))).filter un).filterMap (is[·]?)) := by
  have hlt := lt_of_some hj
  have hr : List.range is.length = List.range j ++ j :: List.range' (j + 1) (is.length - (j + 1)) := by
    have h1 : List.range is.length = List.range' 0 is.length := List.range_eq_range'
    have h2 : List.range' 0 is.length = List.range' 0 j ++ List.range' j (is.length - j) := by
      rw [show is.length = j + (is.length - j) by omega, ← List.range'_append_1]; simp
    have h3 : List.range' j (is.length - j) = j :: List.range' (j + 1) (is.length - (j + 1)) := by
      rw [show is.length - j = (is.length - (j + 1)) + 1 by omega, List.range'_succ]
    rw [h1, h2, h3, List.range_eq_range']
  unfold left
  rw [hr, List.filter_append, List.filter_cons, if_pos hun, List.filterMap_append, List.filterMap_cons, hj]

theorem left_drop {is : List IOper} {un un' : Nat → Bool} {j : Nat} {io : IOper} (hj : is[j]? = some io) (hun : un' j = false) (hsame : ∀ i, i ≠ j → un' i = un i) :
    left is un' = ((List.range j).filter un).filterMap (is[·]?) ++ (((List.range' (j + 1) (is.length - (j + 1))).filter un).filterMap (is[·]?)) := by
  have hlt := lt_of_some hj
  have hr : List.range is.length = List.range j ++ j :: List.range' (j + 1) (is.length - (j + 1)) := by
    have h1 : List.range is.length = List.range' 0 is.length := List.range_eq_range'
    have h2 : List.range' 0 is.length = List.range' 0 j ++ List.range' j (is.length - j) := by
      rw [show is.length = j + (is.length - j) by omega, ← List.range'_append_1]; simp
    have h3 : List.range' j (is.length - j) = j :: List.range' (j + 1) (is.length - (j + 1)) := by
      rw [show is.length - j = (is.length - (j + 1)) + 1 by omega, List.range'_succ]
    rw [h1, h2, h3, List.range_eq_range']
  unfold left
  rw [hr, List.filter_append, List.filter_cons, if_neg (by simp [hun]), List.filterMap_append]
  congr 2
  · exact List.filter_congr (fun i hi => hsame i (by have := List.mem_range.1 hi; omega))
  · exact List.filter_congr (fun i hi => hsame i (by have := List.mem_range'_1.1 hi; omega))

set_option maxHeartbeats 1000000 in
theorem draw_sound (hφ : PhiOk C P φ) {ops : Array Oper} {is : List IOper} (hc : cOpers P C N at_ ops ops.toList = some is) (hd : drawOk ops.toList is = true) {e e' : Env} {H H' : List AO} (hr : runOps φ is e H = some (e', H')) {Q : Exit → Act → World → Prop} {a0 : Act} {w0 : World} {ρ0 : List Value} {F0 : Nat → Prop}
    (hs : Sim C B F0 H ρ0 N e a0 w0) (hQ : ∀ a' w' ρ' F', After C B F0 H ρ0 w0 N e' H' a' w' ρ' F' → Q .normal a' w') : wpAny P .any ops Q ops.size (Array.replicate ops.size false) a0 w0 := by
  obtain ⟨hlen, hat⟩ := cOpers_at ops.toList is hc
  have hlen' : is.length = ops.size := by simpa using hlen
  have hdf := drawFacts hd
  have opOf : ∀ (j : Nat) (io : IOper), is[j]? = some io → OpOf P C N at_ ops io := by
    intro j io hj
    have hjl := lt_of_some hj
    obtain ⟨io', h1, h2⟩ := hat j (ops.toList[j]'(by simpa using (hlen' ▸ hjl))) (List.getElem?_eq_getElem _)
    rw [hj] at h1; injection h1 with h1; subst h1
    exact ⟨⟨_, h2⟩, hdf.const io (List.mem_of_getElem? hj), cOper_live h2⟩
  have key : ∀ (fuel : Nat) (listed : Array Bool) (e1 : Env) (H1 : List AO) (a : Act) (w : World) (ρ : List Value) (F : Nat → Prop), listed.size = ops.size → ((List.range ops.size).filter fun i => !listed.getD i true).length ≤ fuel →
      Closed ops.toList (fun i => listed.getD i false) → (∃ e2, runOps φ (left is fun i => !listed.getD i true) e1 H1 = some (e2, H') ∧ ∀ t, e2.get t = e'.get t) →
      After C B F0 H ρ0 w0 N e1 H1 a w ρ F → wpAny P .any ops Q fuel listed a w := by
    have done : ∀ (listed : Array Bool) (e1 : Env) (H1 : List AO) (a : Act) (w : World) (ρ : List Value) (F : Nat → Prop), (∀ i, i < ops.size → listed.getD i true = true) →
        (∃ e2, runOps φ (left is fun i => !listed.getD i true) e1 H1 = some (e2, H') ∧ ∀ t, e2.get t = e'.get t) → After C B F0 H ρ0 w0 N e1 H1 a w ρ F → Q .normal a w := by
      rintro listed e1 H1 a w ρ F hall ⟨e2, h2, he2⟩ haft
      have hnil : left is (fun i => !listed.getD i true) = [] := by
        unfold left
        rw [List.filter_eq_nil_iff.2 (fun i hi => by rw [hall i (by have := List.mem_range.1 hi; omega)]; simp)]
        rfl
      rw [hnil] at h2
      simp only [runOps, Option.some.injEq, Prod.mk.injEq] at h2
      obtain ⟨rfl, rfl⟩ := h2
      exact hQ a w ρ F (haft.congr (fun t => (he2 t).symm))
    intro fuel
    induction fuel with
    | zero =>
      intro listed e1 H1 a w ρ F hsz hcnt hcl hrun haft
      have hnil : ((List.range ops.size).filter fun i => !listed.getD i true) = [] := List.eq_nil_of_length_eq_zero (by omega)
      have hall : ∀ i, i < ops.size → listed.getD i true = true := by
        intro i hi
        have := List.filter_eq_nil_iff.1 hnil i (List.mem_range.2 hi)
        simpa using this
      refine ⟨?_, done listed e1 H1 a w ρ F hall hrun haft⟩
      apply List.eq_nil_iff_forall_not_mem.2
      intro i hi
      obtain ⟨h1, o, ho, _⟩ := mem_ready.1 hi
      have hlt : i < ops.size := (Array.getElem?_eq_some_iff.1 ho).1
      rw [hall i hlt] at h1; cases h1
    | succ fuel ih =>
      intro listed e1 H1 a w ρ F hsz hcnt hcl hrun haft
      refine ⟨fun hnil => done listed e1 H1 a w ρ F ?_ hrun haft, fun j hj => ?_⟩
      · intro i
        induction i using Nat.strongRecOn with
        | _ i ihi =>
          intro hi
          have hi' : i < listed.size := by omega
          cases hli : listed.getD i true with
          | true => rfl
          | false =>
            exfalso
            have hmem : i ∈ Region.ready .any ops listed := by
              refine mem_ready.2 ⟨hli, ops[i], by simp [hi], fun ed hed hb => ?_⟩
              have hlt := hdf.back i ops[i] ed (by simp [hi]) (by simpa using hed) hb
              have h9 := ihi ed.on hlt (by omega)
              have hl9 : ed.on < listed.size := by omega
              simpa [Array.getD_eq_getD_getElem?, hl9] using h9
            rw [hnil] at hmem; cases hmem
      · obtain ⟨hjl, o, ho, hedges⟩ := mem_ready.1 hj
        have hjlt : j < ops.size := (Array.getElem?_eq_some_iff.1 ho).1
        have hjlt' : j < listed.size := by omega
        have hol : ops.toList[j]? = some o := by simpa using ho
        obtain ⟨io, hio, hcio⟩ := hat j o hol
        obtain ⟨hop, hdst, hdN⟩ := cOper_spec hcio
        have hbef : ∀ i, ((befs ops.toList []).getD j 0).testBit i = true → listed.getD i false = true := by
          intro i hbit
          obtain ⟨ed, hm, hb, hh⟩ := befs_bit hol hbit
          have hl := hedges ed (by simpa using hm) hb
          rcases hh with rfl | hh
          · exact hl
          · exact hcl ed.on i hl hh
        obtain ⟨e2, h2, he2⟩ := hrun
        rw [left_split hio (by simp [hjl])] at h2
        have hL1 : ∀ p ∈ ((List.range j).filter fun i => !listed.getD i true).filterMap (is[·]?), OpOf P C N at_ ops p ∧ okSwap p io = true := by
          intro p hp
          obtain ⟨i, hi, hpi⟩ := List.mem_filterMap.1 hp
          obtain ⟨hir, hun⟩ := List.mem_filter.1 hi
          have hij := List.mem_range.1 hir
          refine ⟨opOf i p hpi, ?_⟩
          rcases hdf.conf i j p io hij hpi hio with h | h
          · exact h
          · exfalso
            have h9 := hbef i h
            have hi' : i < listed.size := by omega
            simp [Array.getD_eq_getD_getElem?, hi'] at h9 hun
            rw [h9] at hun; cases hun
        obtain ⟨e3, h3, he3⟩ := bubble hφ (opOf j io hio) _ hL1 ⟨B, F, ρ, a, w, haft.sim⟩ h2
        have hun' : ∀ i, i ≠ j → (!(listed.setIfInBounds j true).getD i true) = !listed.getD i true := by
          intro i hij
          simp only [Array.getD_eq_getD_getElem?, Array.getElem?_setIfInBounds]
          rw [if_neg (fun h => hij h.symm)]
        have hunj : (!(listed.setIfInBounds j true).getD j true) = false := by
          simp [Array.getD_eq_getD_getElem?, Array.getElem?_setIfInBounds, hjlt']
        rw [← left_drop (un' := fun i => !(listed.setIfInBounds j true).getD i true) hio hunj hun', runOps_cons] at h3
        obtain ⟨⟨e4, H4⟩, h4, h3⟩ := Option.bind_eq_some_iff.1 h3
        simp only at h3
        have hsz' : (listed.setIfInBounds j true).size = ops.size := by simp [hsz]
        have hcl' : Closed ops.toList (fun i => (listed.setIfInBounds j true).getD i false) := by
          have hget : ∀ i, (listed.setIfInBounds j true).getD i false = if i = j then true else listed.getD i false := by
            intro i
            simp only [Array.getD_eq_getD_getElem?, Array.getElem?_setIfInBounds]
            by_cases hij : j = i
            · subst hij; simp [hjlt']
            · rw [if_neg hij, if_neg (Ne.symm hij)]
          intro k i hk hbit
          simp only [hget] at hk ⊢
          split
          · rfl
          · split at hk
            · rename_i hkj; subst hkj; exact hbef i hbit
            · exact hcl k i hk hbit
        have hcnt' : ((List.range ops.size).filter fun i => !(listed.setIfInBounds j true).getD i true).length ≤ fuel := by
          have e1 : ((List.range ops.size).filter fun i => !(listed.setIfInBounds j true).getD i true) = (((List.range ops.size).filter fun i => !listed.getD i true).filter fun i => i ≠ j) := by
            rw [List.filter_filter]
            apply List.filter_congr
            intro i _
            by_cases hij : i = j
            · subst hij; rw [hunj]; simp
            · rw [hun' i hij]; simp [hij]
          rw [e1]
          have hmem : j ∈ (List.range ops.size).filter fun i => !listed.getD i true := List.mem_filter.2 ⟨List.mem_range.2 hjlt, by simpa using hjl⟩
          have hlt : (((List.range ops.size).filter fun i => !listed.getD i true).filter fun i => decide (i ≠ j)).length < ((List.range ops.size).filter fun i => !listed.getD i true).length :=
            List.length_filter_lt_length_iff_exists.2 ⟨j, hmem, by simp⟩
          omega
        have next : ∀ (a' : Act) (w' : World) (ρ' : List Value) (F' : Nat → Prop), After C B F H1 ρ w N e4 H4 a' w' ρ' F' → wpAny P .any ops Q fuel (listed.setIfInBounds j true) a' w' := fun a' w' ρ' F' h9 =>
          ih (listed.setIfInBounds j true) e4 H4 a' w' ρ' F' hsz' hcnt' hcl' ⟨e3, h3, fun t => (he3 t).trans (he2 t)⟩ (haft.trans h9)
        simp only [runOps, cOper_live hcio, scr] at h4
        obtain ⟨b, hb, h4⟩ := Option.bind_eq_some_iff.1 h4
        have hw := wanted_ok haft.sim hcio hb
        unfold wpOp
        rw [ho]
        simp only
        rw [hw]
        cases b with
        | false =>
          simp only [Bool.false_eq_true, if_false, Option.some.injEq, Prod.mk.injEq] at h4 ⊢
          obtain ⟨rfl, rfl⟩ := h4
          refine next _ w ρ F ?_
          rw [hdst]
          exact After.of_post haft.sim (Post.quiet haft.sim.hp VR.tup0) hdN
        | true =>
          simp only [if_true] at h4 ⊢
          obtain ⟨q, hq, h4⟩ := Option.bind_eq_some_iff.1 h4
          simp only [Option.some.injEq, Prod.mk.injEq] at h4
          obtain ⟨rfl, rfl⟩ := h4
          left
          refine step_sound hφ hop haft.sim hq (fun v w' ρ' F' hpost => ?_)
          refine next _ w' ρ' F' ?_
          rw [hdst]
          exact After.of_post haft.sim hpost hdN
  refine key ops.size _ e H a0 w0 ρ0 F0 (by simp) ?_ ?_ ⟨e', ?_, fun _ => rfl⟩ (After.refl hs)
  · exact Nat.le_trans (List.length_filter_le _ _) (by simp)
  · intro j i hj
    exfalso
    by_cases hj' : j < ops.size <;> simp [Array.getD_eq_getD_getElem?, hj'] at hj
  · have hall : left is (fun i => !(Array.replicate ops.size false).getD i true) = is := by
      unfold left
      rw [List.filter_eq_self.2 (fun i hi => by have := List.mem_range.1 hi; simp [Array.getD_eq_getD_getElem?, hlen' ▸ this])]
      apply List.ext_getElem?
      intro k
      have : (List.range is.length).filterMap (is[·]?) = is := by
        have h1 : (List.range is.length).map (is[·]?) = is.map some := by
          apply List.ext_getElem?
          intro k
          by_cases hk : k < is.length
          · simp [hk]
          · simp [hk]
        have h2 := List.filterMap_map (f := (is[·]?)) (g := id) (l := List.range is.length)
        rw [h1] at h2
        simpa [List.filterMap_map, Function.comp_def] using h2.symm
      rw [this]
    rw [hall]
    exact hr

end
end Go.PI
