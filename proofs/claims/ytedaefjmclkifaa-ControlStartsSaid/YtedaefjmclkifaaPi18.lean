/- The soundness of the interpreter: what it says of a call is a contract of the model's. No condition. -/
import Derived.Test.YtedaefjmclkifaaPi17
namespace Go.PI
open Go.RowKit

def strip : IC → IC
  | .reg d ops _ => .reg d ops []
  | .seq a b => .seq (strip a) (strip b)
  | .cond c a b => .cond c (strip a) (strip b)
  | .block id b => .block id (strip b)
  | .loop _ b => .loop [] (strip b)
  | c => c

theorem strip_ann (rt : List Nat) : ∀ (c : IC) (xs : List (Nat × List Nat)) (l : List Nat), strip (ann rt c xs l).1 = strip c
  | .skip, _, _ => rfl
  | .reg d ops k, _, _ => rfl
  | .seq a b, xs, l => by simp only [ann, strip]; rw [strip_ann rt a, strip_ann rt b]
  | .cond c a b, xs, l => by simp only [ann, strip]; rw [strip_ann rt a, strip_ann rt b]
  | .block id b, xs, l => by simp only [ann, strip]; rw [strip_ann rt b]
  | .loop k b, xs, l => by simp only [ann, strip]; rw [strip_ann rt b]
  | .exit id, _, _ => rfl
  | .ret, _, _ => rfl

theorem strip_cCode {P : Program} {N : Nat} : ∀ (c : Code) (ic : IC), cCode P N c = some ic → strip ic = ic
  | .skip, ic, h => by simp [cCode] at h; subst h; rfl
  | .region id ops draw, ic, h => by
    simp only [cCode] at h
    obtain ⟨is, _, h⟩ := Option.bind_eq_some_iff.1 h
    split at h
    · injection h with h; subst h; rfl
    · cases h
  | .seq a b, ic, h => by
    simp only [cCode] at h
    obtain ⟨a', ha, h⟩ := Option.bind_eq_some_iff.1 h
    obtain ⟨b', hb, rfl⟩ := Option.map_eq_some_iff.1 h
    simp only [strip]; rw [strip_cCode a a' ha, strip_cCode b b' hb]
  | .cond c a b, ic, h => by
    simp only [cCode] at h
    obtain ⟨c', hc, h⟩ := Option.bind_eq_some_iff.1 h
    obtain ⟨a', ha, h⟩ := Option.bind_eq_some_iff.1 h
    obtain ⟨b', hb, rfl⟩ := Option.map_eq_some_iff.1 h
    simp only [strip]; rw [strip_cCode a a' ha, strip_cCode b b' hb]
  | .block id b, ic, h => by
    simp only [cCode] at h
    obtain ⟨b', hb, rfl⟩ := Option.map_eq_some_iff.1 h
    simp only [strip]; rw [strip_cCode b b' hb]
  | .loop b, ic, h => by
    simp only [cCode] at h
    obtain ⟨b', hb, rfl⟩ := Option.map_eq_some_iff.1 h
    simp only [strip]; rw [strip_cCode b b' hb]
  | .exit id, ic, h => by simp [cCode] at h; subst h; rfl
  | .ret, ic, h => by simp [cCode] at h; subst h; rfl
  | .rangeFunc .., ic, h => by simp [cCode] at h
  | .scope _, ic, h => by simp [cCode] at h
  | .label _, ic, h => by simp [cCode] at h
  | .goto _, ic, h => by simp [cCode] at h
  | .refuse _, ic, h => by simp [cCode] at h

def exOf : Ex → Exit
  | .normal => .normal
  | .ret => .ret
  | .exit id => .exit id

section
variable {P : Program} {B N : Nat} {F F' : Nat → Prop} {H H' : List AO} {ρ ρ' : List Value} {w w' : World} {x y : Value} {e : Env} {a : Act}

theorem get_scrub (keep : List Nat) (e : Env) (i : Nat) : (scrub keep e).get i = e.get i ∨ (scrub keep e).get i = .top := by
  unfold scrub
  induction keep with
  | nil => exact .inr rfl
  | cons k r ih =>
    simp only [List.map_cons, Env.get]
    split
    · rename_i h; subst h; exact .inl rfl
    · exact ih

theorem Sim.scrub (h : Sim B F H ρ N e a w) (keep : List Nat) : Sim B F H ρ N (scrub keep e) a w :=
  ⟨h.hp, h.defers, h.size, fun i => by
    rcases get_scrub keep e i with h1 | h1 <;> rw [h1]
    · exact h.env i
    · exact .imm (.top _)⟩

theorem After.scrub {e' : Env} {a' : Act} (h : After B F H ρ w N e' H' a' w' ρ' F') (keep : List Nat) : After B F H ρ w N (PI.scrub keep e') H' a' w' ρ' F' :=
  ⟨h.sim.scrub keep, h.ev, h.kept, h.sub, h.bnd⟩

theorem Sim.drew (h : Sim B F H ρ N e a w) : After B F H ρ w N e H a w.drew ρ F := by
  have hb : Below w.heap.size w w.drew := (Below.refl _ _).drew
  exact ⟨⟨h.hp.grow hb, h.defers, h.size, fun i => (h.env i).mono (Ev.refl _ _) (fun _ x => x) (fun _ _ => rfl)⟩, Ev.refl _ _, Kept.of_below hb, fun _ x => x, fun _ x => .inl x⟩

/-- What holds behind a piece of code, by the way in which it ends. -/
def CodeOk (P : Program) (tbl : Nat → Option IFn) (k : Nat) : Prop :=
  ∀ (N B : Nat) (c : Code) (ic : IC) (e : Env) (H : List AO) (ρ : List Value) (F : Nat → Prop) (a : Act) (w : World) (ex : Ex) (e' : Env) (H' : List AO), cCode P N c = some (strip ic) → exN tbl k ic e H = some (ex, e', H') → Sim B F H ρ N e a w →
    c.wp P (fun en a' w' => ∃ ρ' F', en = exOf ex ∧ After B F H ρ w N e' H' a' w' ρ' F') a w

theorem loop_sound {tbl : Nat → Option IFn} : ∀ (k : Nat), (∀ j, j < k → CodeOk P tbl j) → ∀ (c : Code) (keep : List Nat) (ib : IC) (e : Env) (H : List AO) (ρ : List Value) (F : Nat → Prop) (a : Act) (w : World) (ex : Ex) (e' : Env) (H' : List AO),
    cCode P N c = some (strip ib) → exN tbl k (.loop keep ib) e H = some (ex, e', H') → Sim B F H ρ N e a w →
    ∀ (Q : Exit → Act → World → Prop), (∀ a' w' ρ' F', After B F H ρ w N e' H' a' w' ρ' F' → Q (exOf ex) a' w') → Code.rounds P c Q k a w
  | 0, _, c, keep, ib, e, H, ρ, F, a, w, ex, e', H', hc, h, hs, Q, hQ => by simp [exN] at h
  | k + 1, hA, c, keep, ib, e, H, ρ, F, a, w, ex, e', H', hc, h, hs, Q, hQ => by
    simp only [exN] at h
    obtain ⟨r, hr, h⟩ := Option.bind_eq_some_iff.1 h
    obtain ⟨ex1, e1, H1⟩ := r
    have hbody := hA k (by omega) N B c ib (scrub keep e) H ρ F a w ex1 e1 H1 hc hr (hs.scrub keep)
    rw [rounds_succ]
    refine Code.wp_mono ?_ hbody
    rintro en a1 w1 ⟨ρ1, F1, rfl, haft⟩
    cases ex1 with
    | normal =>
      simp only [thenEx] at h
      simp only [exOf, Exit.then]
      exact loop_sound k (fun j hj => hA j (by omega)) c keep ib e1 H1 ρ1 F1 a1 w1 ex e' H' hc h haft.sim Q (fun a2 w2 ρ2 F2 h2 => hQ a2 w2 ρ2 F2 (haft.trans h2))
    | ret =>
      simp only [thenEx, Option.some.injEq, Prod.mk.injEq] at h
      obtain ⟨rfl, rfl, rfl⟩ := h
      exact hQ a1 w1 ρ1 F1 haft
    | exit id =>
      simp only [thenEx, Option.some.injEq, Prod.mk.injEq] at h
      obtain ⟨rfl, rfl, rfl⟩ := h
      exact hQ a1 w1 ρ1 F1 haft

theorem code_step {tbl : Nat → Option IFn} (hm : P.follows .mixedOrders = true) (k : Nat) (hφ : PhiOk P (callN tbl k)) (hA : ∀ j, j < k + 1 → CodeOk P tbl j) : CodeOk P tbl (k + 1) := by
  intro N B c ic e H ρ F a w ex e' H' hc h hs
  cases ic with
  | skip =>
    cases c <;> simp only [cCode, strip] at hc <;> try (simp at hc; done)
    case skip =>
      simp only [exN, Option.some.injEq, Prod.mk.injEq] at h
      obtain ⟨rfl, rfl, rfl⟩ := h
      exact wp_skip ⟨ρ, F, rfl, After.refl hs⟩
    all_goals first
      | (obtain ⟨_, _, hc⟩ := Option.bind_eq_some_iff.1 hc; split at hc <;> simp at hc; done)
      | (obtain ⟨_, _, hc⟩ := Option.bind_eq_some_iff.1 hc; obtain ⟨_, _, hc⟩ := Option.bind_eq_some_iff.1 hc; obtain ⟨_, _, hc⟩ := Option.map_eq_some_iff.1 hc; cases hc; done)
      | (obtain ⟨_, _, hc⟩ := Option.bind_eq_some_iff.1 hc; obtain ⟨_, _, hc⟩ := Option.map_eq_some_iff.1 hc; cases hc; done)
      | (obtain ⟨_, _, hc⟩ := Option.map_eq_some_iff.1 hc; cases hc; done)
  | reg d ops keep =>
    cases c with
    | region id cops draw =>
      simp only [cCode, strip] at hc
      obtain ⟨is, his, hc⟩ := Option.bind_eq_some_iff.1 hc
      split at hc
      case isFalse => cases hc
      rename_i hdraw
      injection hc with hc
      injection hc with e1 e2
      subst e1 e2
      simp only [exN] at h
      obtain ⟨r, hr, h⟩ := Option.map_eq_some_iff.1 h
      obtain ⟨e1, H1⟩ := r
      simp only [Prod.mk.injEq] at h
      obtain ⟨rfl, rfl, rfl⟩ := h
      cases draw with
      | false =>
        refine wp_region_list ?_
        exact ops_sound hφ cops.toList is e H ρ F a w e1 H1 his hr hs (fun a' w' ρ' F' haft => ⟨ρ', F', rfl, haft.scrub keep⟩)
      | true =>
        have hd : drawOk cops.toList is = true := by simpa using hdraw
        have h1 := hs.drew
        refine wp_region_any hm ?_
        exact draw_sound hφ his hd hr h1.sim (fun a' w' ρ' F' haft => ⟨ρ', F', rfl, (h1.trans haft).scrub keep⟩)
    | seq => simp only [cCode, strip] at hc; obtain ⟨_, _, hc⟩ := Option.bind_eq_some_iff.1 hc; obtain ⟨_, _, hc⟩ := Option.map_eq_some_iff.1 hc; cases hc
    | cond => simp only [cCode, strip] at hc; obtain ⟨_, _, hc⟩ := Option.bind_eq_some_iff.1 hc; obtain ⟨_, _, hc⟩ := Option.bind_eq_some_iff.1 hc; obtain ⟨_, _, hc⟩ := Option.map_eq_some_iff.1 hc; cases hc
    | block => simp only [cCode, strip] at hc; obtain ⟨_, _, hc⟩ := Option.map_eq_some_iff.1 hc; cases hc
    | loop => simp only [cCode, strip] at hc; obtain ⟨_, _, hc⟩ := Option.map_eq_some_iff.1 hc; cases hc
    | _ => simp [cCode, strip] at hc
  | seq ia ib =>
    cases c with
    | seq ca cb =>
      simp only [cCode, strip] at hc
      obtain ⟨a', ha', hc⟩ := Option.bind_eq_some_iff.1 hc
      obtain ⟨b', hb', hc⟩ := Option.map_eq_some_iff.1 hc
      injection hc with e1 e2
      subst e1 e2
      simp only [exN] at h
      obtain ⟨r, hr, h⟩ := Option.bind_eq_some_iff.1 h
      obtain ⟨ex1, e1, H1⟩ := r
      have h1 := hA k (by omega) N B ca ia e H ρ F a w ex1 e1 H1 ha' hr hs
      refine wp_seq (Code.wp_mono ?_ h1)
      rintro en a1 w1 ⟨ρ1, F1, rfl, haft⟩
      cases ex1 with
      | normal =>
        simp only [thenEx] at h
        simp only [exOf, Exit.then]
        have h2 := hA k (by omega) N B cb ib e1 H1 ρ1 F1 a1 w1 ex e' H' hb' h haft.sim
        refine Code.wp_mono ?_ h2
        rintro en a2 w2 ⟨ρ2, F2, rfl, haft2⟩
        exact ⟨ρ2, F2, rfl, haft.trans haft2⟩
      | ret =>
        simp only [thenEx, Option.some.injEq, Prod.mk.injEq] at h
        obtain ⟨rfl, rfl, rfl⟩ := h
        exact ⟨ρ1, F1, rfl, haft⟩
      | exit id =>
        simp only [thenEx, Option.some.injEq, Prod.mk.injEq] at h
        obtain ⟨rfl, rfl, rfl⟩ := h
        exact ⟨ρ1, F1, rfl, haft⟩
    | region id cops draw => simp only [cCode, strip] at hc; obtain ⟨_, _, hc⟩ := Option.bind_eq_some_iff.1 hc; split at hc <;> simp at hc
    | cond => simp only [cCode, strip] at hc; obtain ⟨_, _, hc⟩ := Option.bind_eq_some_iff.1 hc; obtain ⟨_, _, hc⟩ := Option.bind_eq_some_iff.1 hc; obtain ⟨_, _, hc⟩ := Option.map_eq_some_iff.1 hc; cases hc
    | block => simp only [cCode, strip] at hc; obtain ⟨_, _, hc⟩ := Option.map_eq_some_iff.1 hc; cases hc
    | loop => simp only [cCode, strip] at hc; obtain ⟨_, _, hc⟩ := Option.map_eq_some_iff.1 hc; cases hc
    | _ => simp [cCode, strip] at hc
  | cond ic ia ib =>
    cases c with
    | cond cc ca cb =>
      simp only [cCode, strip] at hc
      obtain ⟨c', hc', hc⟩ := Option.bind_eq_some_iff.1 hc
      obtain ⟨a', ha', hc⟩ := Option.bind_eq_some_iff.1 hc
      obtain ⟨b', hb', hc⟩ := Option.map_eq_some_iff.1 hc
      injection hc with e0 e1 e2
      subst e0 e1 e2
      simp only [exN, onBool] at h
      have hv := opd_ok hs hc'
      split at h
      · rename_i t ht
        rw [ht] at hv
        refine wp_cond (t := t) hv.bool_inv ?_
        cases t with
        | true =>
          simp only [if_true] at h ⊢
          exact hA k (by omega) N B ca ia e H ρ F a w ex e' H' ha' h hs
        | false =>
          simp only [Bool.false_eq_true, if_false] at h ⊢
          exact hA k (by omega) N B cb ib e H ρ F a w ex e' H' hb' h hs
      · cases h
    | region id cops draw => simp only [cCode, strip] at hc; obtain ⟨_, _, hc⟩ := Option.bind_eq_some_iff.1 hc; split at hc <;> simp at hc
    | seq => simp only [cCode, strip] at hc; obtain ⟨_, _, hc⟩ := Option.bind_eq_some_iff.1 hc; obtain ⟨_, _, hc⟩ := Option.map_eq_some_iff.1 hc; cases hc
    | block => simp only [cCode, strip] at hc; obtain ⟨_, _, hc⟩ := Option.map_eq_some_iff.1 hc; cases hc
    | loop => simp only [cCode, strip] at hc; obtain ⟨_, _, hc⟩ := Option.map_eq_some_iff.1 hc; cases hc
    | _ => simp [cCode, strip] at hc
  | block id ib =>
    cases c with
    | block id' cb =>
      simp only [cCode, strip] at hc
      obtain ⟨b', hb', hc⟩ := Option.map_eq_some_iff.1 hc
      injection hc with e0 e1
      subst e0 e1
      simp only [exN] at h
      obtain ⟨r, hr, h⟩ := Option.map_eq_some_iff.1 h
      obtain ⟨ex1, e1, H1⟩ := r
      have h1 := hA k (by omega) N B cb ib e H ρ F a w ex1 e1 H1 hb' hr hs
      refine wp_block (Code.wp_mono ?_ h1)
      rintro en a1 w1 ⟨ρ1, F1, rfl, haft⟩
      cases ex1 with
      | normal =>
        simp only [outBlock, Prod.mk.injEq] at h
        obtain ⟨rfl, rfl, rfl⟩ := h
        exact ⟨ρ1, F1, rfl, haft⟩
      | ret =>
        simp only [outBlock, Prod.mk.injEq] at h
        obtain ⟨rfl, rfl, rfl⟩ := h
        exact ⟨ρ1, F1, rfl, haft⟩
      | exit i =>
        simp only [outBlock] at h
        simp only [exOf, Exit.inBlock]
        by_cases hi : i = id'
        · rw [if_pos hi] at h ⊢
          simp only [Prod.mk.injEq] at h
          obtain ⟨rfl, rfl, rfl⟩ := h
          exact ⟨ρ1, F1, rfl, haft⟩
        · rw [if_neg hi] at h ⊢
          simp only [Prod.mk.injEq] at h
          obtain ⟨rfl, rfl, rfl⟩ := h
          exact ⟨ρ1, F1, rfl, haft⟩
    | region id cops draw => simp only [cCode, strip] at hc; obtain ⟨_, _, hc⟩ := Option.bind_eq_some_iff.1 hc; split at hc <;> simp at hc
    | seq => simp only [cCode, strip] at hc; obtain ⟨_, _, hc⟩ := Option.bind_eq_some_iff.1 hc; obtain ⟨_, _, hc⟩ := Option.map_eq_some_iff.1 hc; cases hc
    | cond => simp only [cCode, strip] at hc; obtain ⟨_, _, hc⟩ := Option.bind_eq_some_iff.1 hc; obtain ⟨_, _, hc⟩ := Option.bind_eq_some_iff.1 hc; obtain ⟨_, _, hc⟩ := Option.map_eq_some_iff.1 hc; cases hc
    | loop => simp only [cCode, strip] at hc; obtain ⟨_, _, hc⟩ := Option.map_eq_some_iff.1 hc; cases hc
    | _ => simp [cCode, strip] at hc
  | loop keep ib =>
    cases c with
    | loop cb =>
      simp only [cCode, strip] at hc
      obtain ⟨b', hb', hc⟩ := Option.map_eq_some_iff.1 hc
      injection hc with e0 e1
      subst e1
      refine wp_loop_rounds (k + 1) ?_
      exact loop_sound (k + 1) hA cb keep ib e H ρ F a w ex e' H' hb' h hs _ (fun a' w' ρ' F' haft => ⟨ρ', F', rfl, haft⟩)
    | region id cops draw => simp only [cCode, strip] at hc; obtain ⟨_, _, hc⟩ := Option.bind_eq_some_iff.1 hc; split at hc <;> simp at hc
    | seq => simp only [cCode, strip] at hc; obtain ⟨_, _, hc⟩ := Option.bind_eq_some_iff.1 hc; obtain ⟨_, _, hc⟩ := Option.map_eq_some_iff.1 hc; cases hc
    | cond => simp only [cCode, strip] at hc; obtain ⟨_, _, hc⟩ := Option.bind_eq_some_iff.1 hc; obtain ⟨_, _, hc⟩ := Option.bind_eq_some_iff.1 hc; obtain ⟨_, _, hc⟩ := Option.map_eq_some_iff.1 hc; cases hc
    | block => simp only [cCode, strip] at hc; obtain ⟨_, _, hc⟩ := Option.map_eq_some_iff.1 hc; cases hc
    | _ => simp [cCode, strip] at hc
  | exit id =>
    cases c with
    | exit id' =>
      simp only [cCode, strip, Option.some.injEq, IC.exit.injEq] at hc
      subst hc
      simp only [exN, Option.some.injEq, Prod.mk.injEq] at h
      obtain ⟨rfl, rfl, rfl⟩ := h
      exact wp_exit ⟨ρ, F, rfl, After.refl hs⟩
    | region id cops draw => simp only [cCode, strip] at hc; obtain ⟨_, _, hc⟩ := Option.bind_eq_some_iff.1 hc; split at hc <;> simp at hc
    | seq => simp only [cCode, strip] at hc; obtain ⟨_, _, hc⟩ := Option.bind_eq_some_iff.1 hc; obtain ⟨_, _, hc⟩ := Option.map_eq_some_iff.1 hc; cases hc
    | cond => simp only [cCode, strip] at hc; obtain ⟨_, _, hc⟩ := Option.bind_eq_some_iff.1 hc; obtain ⟨_, _, hc⟩ := Option.bind_eq_some_iff.1 hc; obtain ⟨_, _, hc⟩ := Option.map_eq_some_iff.1 hc; cases hc
    | block => simp only [cCode, strip] at hc; obtain ⟨_, _, hc⟩ := Option.map_eq_some_iff.1 hc; cases hc
    | loop => simp only [cCode, strip] at hc; obtain ⟨_, _, hc⟩ := Option.map_eq_some_iff.1 hc; cases hc
    | _ => simp [cCode, strip] at hc
  | ret =>
    cases c with
    | ret =>
      simp only [exN, Option.some.injEq, Prod.mk.injEq] at h
      obtain ⟨rfl, rfl, rfl⟩ := h
      exact wp_ret ⟨ρ, F, rfl, After.refl hs⟩
    | region id cops draw => simp only [cCode, strip] at hc; obtain ⟨_, _, hc⟩ := Option.bind_eq_some_iff.1 hc; split at hc <;> simp at hc
    | seq => simp only [cCode, strip] at hc; obtain ⟨_, _, hc⟩ := Option.bind_eq_some_iff.1 hc; obtain ⟨_, _, hc⟩ := Option.map_eq_some_iff.1 hc; cases hc
    | cond => simp only [cCode, strip] at hc; obtain ⟨_, _, hc⟩ := Option.bind_eq_some_iff.1 hc; obtain ⟨_, _, hc⟩ := Option.bind_eq_some_iff.1 hc; obtain ⟨_, _, hc⟩ := Option.map_eq_some_iff.1 hc; cases hc
    | block => simp only [cCode, strip] at hc; obtain ⟨_, _, hc⟩ := Option.map_eq_some_iff.1 hc; cases hc
    | loop => simp only [cCode, strip] at hc; obtain ⟨_, _, hc⟩ := Option.map_eq_some_iff.1 hc; cases hc
    | _ => simp [cCode, strip] at hc

/- results -/
def resSem (tmps : Array Value) : ResultVar → Sem Value
  | .tmp t => pure (tmps.getD t undef)
  | .cell p t => do loadVar t (← asAddr (tmps.getD p undef))

theorem results_eq (fn : Func) (tmps : Array Value) : results fn tmps = (do let vs ← fn.results.mapM (resSem tmps); pure (if h : vs.size = 1 then vs[0] else .tuple vs)) := by
  unfold results
  congr 2

theorem res_ok (hs : Sim B F H ρ N e a w) : ∀ (l : List ResultVar) (rs : List IRes) (vs : List AV), cRes P l = some rs → resVals e H rs = some vs →
    ∃ us : List Value, (l.mapM (resSem a.tmps)).run P w = .ok us w ∧ vs.length = us.length ∧
      ∀ (j : Nat) (c : AV) (u : Value), vs[j]? = some c → us[j]? = some u → VR H ρ F w c u
  | [], rs, vs, hc, hv => by
    simp [cRes] at hc; subst hc
    simp [resVals] at hv; subst hv
    exact ⟨[], by simp, rfl, fun j c u hc => by simp at hc⟩
  | .tmp t :: r, rs, vs, hc, hv => by
    simp only [cRes] at hc
    obtain ⟨rs', hrs, rfl⟩ := Option.map_eq_some_iff.1 hc
    simp only [resVals] at hv
    obtain ⟨vs', hvs, rfl⟩ := Option.map_eq_some_iff.1 hv
    obtain ⟨us, h1, h2, h3⟩ := res_ok hs r rs' vs' hrs hvs
    refine ⟨a.tmps.getD t undef :: us, by simp [List.mapM_cons, resSem, h1], by simp [h2], fun j c u hc hu => ?_⟩
    cases j with
    | zero => simp at hc hu; subst hc; rw [← hu]; have := hs.env t; simpa using this
    | succ j => exact h3 j c u (by simpa using hc) (by simpa using hu)
  | .cell p t :: r, rs, vs, hc, hv => by
    simp only [cRes] at hc
    obtain ⟨s, hsz, hc⟩ := Option.bind_eq_some_iff.1 hc
    split at hc
    case isFalse => cases hc
    obtain ⟨rs', hrs, rfl⟩ := Option.map_eq_some_iff.1 hc
    simp only [resVals] at hv
    obtain ⟨v, hv0, hv⟩ := Option.bind_eq_some_iff.1 hv
    obtain ⟨vs', hvs, rfl⟩ := Option.map_eq_some_iff.1 hv
    obtain ⟨us, h1, h2, h3⟩ := res_ok hs r rs' vs' hrs hvs
    obtain ⟨u0, hl1, hl2⟩ := load_ok hs.hp hsz (hs.env p) hv0
    obtain ⟨q, hq, _⟩ := Option.bind_eq_some_iff.1 hv0
    obtain ⟨ad, _, had, _⟩ := pelem_ok hs.hp (hs.env p) hq
    rw [had] at hl1
    have hl1' : (loadVar t ad).run P w = .ok u0 w := by simpa [Instr.loadAt, Instr.sureAddr] using hl1
    refine ⟨u0 :: us, ?_, by simp [h2], fun j c u hc hu => ?_⟩
    · have had' : a.tmps[p]?.getD undef = .pointer (some ad) := by simpa [Array.getD_eq_getD_getElem?] using had
      simp [List.mapM_cons, resSem, had', asAddr, hl1', h1]
    · cases j with
      | zero => simp at hc hu; subst hc hu; exact hl2
      | succ j => exact h3 j c u (by simpa using hc) (by simpa using hu)

theorem bind_get : ∀ (args : List AV) (k i : Nat), (bindArgs k args).get i = if k ≤ i then (args[i - k]?).getD .top else .top
  | [], k, i => by simp [bindArgs, Env.get]
  | v :: r, k, i => by
    simp only [bindArgs, Env.get]
    rw [bind_get r (k + 1) i]
    by_cases h : k = i
    · subst h; simp
    · rw [if_neg h]
      by_cases h2 : k ≤ i
      · rw [if_pos h2, if_pos (by omega), show i - k = (i - (k + 1)) + 1 by omega]; simp
      · rw [if_neg h2, if_neg (by omega)]

theorem fn_sound {tbl : Nat → Option IFn} (ht : ∀ f fn, tbl f = some fn → cFn P f = some fn) (k : Nat) (hA : CodeOk P tbl k) : PhiOk P (callN tbl k) := by
  intro f args res rows h
  unfold callN at h
  obtain ⟨fn, hfn, h⟩ := Option.bind_eq_some_iff.1 h
  split at h
  case isFalse => cases h
  rename_i hnp
  obtain ⟨r, hr, h⟩ := Option.bind_eq_some_iff.1 h
  obtain ⟨ex, e', H'⟩ := r
  have hcf := ht f fn hfn
  unfold cFn at hcf
  obtain ⟨g, hg, hcf⟩ := Option.bind_eq_some_iff.1 hcf
  obtain ⟨c, hcb, hcf⟩ := Option.bind_eq_some_iff.1 hcf
  obtain ⟨ic, hic, hcf⟩ := Option.bind_eq_some_iff.1 hcf
  obtain ⟨rs, hrs, hcf⟩ := Option.bind_eq_some_iff.1 hcf
  split at hcf
  case isFalse => cases hcf
  rename_i hcond
  injection hcf with hcf; subst hcf
  simp only at hnp hr h
  have hex : exOf ex = .normal ∨ exOf ex = .ret := by cases ex <;> first | exact .inl rfl | exact .inr rfl | (simp [finish] at h)
  have hret : retVal e' H' rs = some (res, rows) := by cases ex <;> first | exact h | (simp [finish] at h)
  unfold retVal at hret
  obtain ⟨vs, hvs, hret⟩ := Option.map_eq_some_iff.1 hret
  simp only [Prod.mk.injEq] at hret
  obtain ⟨hres, hrows⟩ := hret
  have core : ∀ (F : Nat → Prop) (w : World) (avs : List Value), (∀ b, F b → b < w.heap.size) → args.length = avs.length → (∀ (j : Nat) (c : AV) (u : Value), args[j]? = some c → avs[j]? = some u → IR F w c u) →
      c.wp P (fun en a' w' => (en = .normal ∨ en = .ret) ∧ ∃ ρ' F', After w.heap.size F [] [] w g.ntmps e' H' a' w' ρ' F') { tmps := avs.toArray ++ Array.replicate (g.ntmps - avs.toArray.size) undef, defers := [] } w := by
    intro F w avs hFb hl hir
    have hsz : avs.length ≤ g.ntmps := by rw [← hl, hnp]; exact hcond.1
    have hsim : Sim w.heap.size F [] [] g.ntmps (bindArgs 0 args) { tmps := avs.toArray ++ Array.replicate (g.ntmps - avs.toArray.size) undef, defers := [] } w := by
      refine ⟨⟨rfl, Nat.le_refl _, hFb, fun id T s g es h => by simp at h, fun id T s e h => by simp at h, fun id s g es h => by simp at h, fun id id' o o' v v' b h => by simp at h⟩, rfl, by simp; omega, fun i => ?_⟩
      rw [bind_get]
      simp only [Nat.zero_le, if_true, Nat.sub_zero]
      cases hi : args[i]? with
      | none => exact .imm (.top _)
      | some c0 =>
        obtain ⟨u, hu⟩ := getElem?_of_len hl hi
        have hilt := lt_of_some hu
        have : (avs.toArray ++ Array.replicate (g.ntmps - avs.toArray.size) undef).getD i undef = u := by
          rw [Array.getD_eq_getD_getElem?, Array.getElem?_append_left (by simpa using hilt)]
          simp [hu]
        rw [this]
        exact .imm (hir i c0 u hi hu)
    have hstrip : cCode P g.ntmps c = some (strip (ann (rs.map resTmp) ic [] []).1) := by rw [strip_ann, strip_cCode c ic hic]; exact hic
    refine Code.wp_mono ?_ (hA g.ntmps w.heap.size c _ _ [] [] F _ w ex e' H' hstrip hr hsim)
    rintro en a' w' ⟨ρ', F', rfl, haft⟩
    exact ⟨hex, ρ', F', haft⟩
  have hrowsRow : ∀ o ∈ rows, o.isRow = true := by
    subst hrows
    have gen : ∀ (vs : List AV) (x : XS), (∀ o ∈ x.rows, o.isRow = true) → ∀ o ∈ (expV H' vs x).2.rows, o.isRow = true := by
      have g0 : ∀ (v : AV) (x : XS), (∀ o ∈ x.rows, o.isRow = true) → ∀ o ∈ (exp0 H' v x).2.rows, o.isRow = true := by
        intro v x hx
        cases v <;> simp only [exp0] <;> try exact hx
        split
        · exact hx
        · split
          · split
            · intro o ho
              simp only [List.mem_append, List.mem_singleton] at ho
              rcases ho with ho | rfl
              · exact hx o ho
              · rfl
            · exact hx
          · exact hx
      have gL : ∀ (vs : List AV) (x : XS), (∀ o ∈ x.rows, o.isRow = true) → ∀ o ∈ (expL H' vs x).2.rows, o.isRow = true := by
        intro vs
        induction vs with
        | nil => intro x hx; exact hx
        | cons v r ih => intro x hx; simp only [expL]; exact ih _ (g0 v x hx)
      intro vs
      induction vs with
      | nil => intro x hx; exact hx
      | cons v r ih =>
        intro x hx
        simp only [expV]
        refine ih _ ?_
        cases v <;> simp only [exp1] <;> first | exact g0 _ x hx | exact gL _ x hx
    exact gen vs _ (fun o ho => by cases ho)
  refine ⟨⟨hrowsRow, fun F w avs hFb hl hir => ?_⟩, g, c, hg, hcb, hcond.2⟩
  refine calls_of_wp hg hcb ?_
  refine Code.wp_mono ?_ (core F w avs hFb hl hir)
  rintro en a' w' ⟨hen, ρ', F', haft⟩
  obtain ⟨us, hu1, hu2, hu3⟩ := res_ok haft.sim g.results.toList rs vs hrs hvs
  obtain ⟨L', hE1, hE2, hE3, hE4⟩ := expV_ok haft.sim.hp vs us _ [] hu2 hu3 (EI.nil (B := w.heap.size) (F := F') (H := H') (ρ := ρ') (w := w'))
  obtain ⟨hheap, _⟩ := hE1.heap haft.sim.hp
  have hrel := hE4 _ L' hE1 (XE.refl _ _)
  have hrun : (results g a'.tmps).run P w' = .ok (if h : us.toArray.size = 1 then us.toArray[0] else .tuple us.toArray) w' := by
    rw [results_eq, Array.mapM_eq_mapM_toList]
    simp only [Sem.run_bind, Sem.run_map]
    rw [hu1]
    simp
  have post : bodyPost P g (fun en w' => ∃ v ρ' F', en = .returned v ∧ HeapRep w.heap.size F' rows ρ' w' ∧ RR2 rows ρ' F' w' res v ∧ Below w.heap.size w w' ∧ (∀ b, F b → F' b) ∧ (∀ b, F' b → F b ∨ w.heap.size ≤ b)) .ret a' w' := by
    refine ⟨haft.sim.defers, _, hrun, _, L'.map (·.2), FF w.heap.size F' w' L', rfl, by rw [← hrows]; exact hheap, ?_, ?_, ?_, ?_⟩
    · rw [← hrows, ← hres]
      generalize hq : (expV H' vs { E := [], U := [], rows := [] }).1 = ws at hE3 hrel
      have hlw := hE3.trans hu2
      clear hE3 hE4 hu1 hu2 hu3 hrun
      match ws, us, hlw, hrel with
      | [v], [u], _, hrel =>
        simp only
        left
        have := hrel 0 v u rfl rfl
        simpa using this
      | [], [], _, hrel => right; exact ⟨[], [], rfl, by simp, rfl, hrel⟩
      | v :: v' :: r, u :: u' :: r', hl2, hrel => right; exact ⟨_, u :: u' :: r', rfl, by simp, hl2, hrel⟩
    · exact ⟨haft.kept.os, haft.kept.tape, haft.kept.output, haft.kept.size, fun k hk => haft.kept.block k hk (.inl hk)⟩
    · exact fun b hb => .inl (haft.sub b hb)
    · rintro b (hb | hb)
      · exact haft.bnd b hb
      · exact .inr hb.1
  rcases hen with rfl | rfl
  · exact post
  · exact post

/-- THE SOUNDNESS OF THE INTERPRETER. -/
theorem sound {tbl : Nat → Option IFn} (hm : P.follows .mixedOrders = true) (ht : ∀ f fn, tbl f = some fn → cFn P f = some fn) : ∀ k, CodeOk P tbl k := by
  intro k
  induction k using Nat.strongRecOn with
  | _ k ih =>
    cases k with
    | zero => intro N B c ic e H ρ F a w ex e' H' _ h; simp [exN] at h
    | succ k => exact code_step hm k (fn_sound ht k (ih k (by omega))) ih

theorem callN_sound {tbl : Nat → Option IFn} (hm : P.follows .mixedOrders = true) (ht : ∀ f fn, tbl f = some fn → cFn P f = some fn) {k f : Nat} {args : List AV} {res : AV} {rows : List AO} (h : callN tbl k f args = some (res, rows)) : FnOk P f args res rows :=
  (fn_sound ht k (sound hm ht k) f args res rows h).1

end
end Go.PI
