/- The soundness of the interpreter: what it says of a call is a contract of the model's. No condition. -/
import Derived.Test.YtpphfbfmoipoaaaDoorPi17c
import Derived.Scope
namespace Go.PI
open Go.RowKit

def strip : IC → IC
  | .reg d t ops _ => .reg d t (ops.map IOper.bare) []
  | .seq a b => .seq (strip a) (strip b)
  | .cond c a b => .cond c (strip a) (strip b)
  | .block id b => .block id (strip b)
  | .loop _ b => .loop [] (strip b)
  | .scope b => .scope (strip b)
  | .rega t _ => .rega t []
  | c => c

theorem mark_bare : ∀ (n : Nat) (ops : List IOper) (l : List Nat), (markL n ops l).map IOper.bare = ops.map IOper.bare
  | _, [], _ => rfl
  | n, o :: r, l => by
    simp only [markL, List.map_cons, mark_bare (n + 1) r l]
    congr 1
    split <;> rfl

theorem cOpers_bare {P : Program} {C : Cfg} {N : Nat} {at_ : Bool} {ops : Array Oper} : ∀ {l : List Oper} {is : List IOper}, cOpers P C N at_ ops l = some is → is.map IOper.bare = is
  | [], is, h => by simp [cOpers] at h; subst h; rfl
  | x :: r, is, h => by
    simp only [cOpers] at h
    obtain ⟨io, hio, h⟩ := Option.bind_eq_some_iff.1 h
    obtain ⟨is', his, rfl⟩ := Option.map_eq_some_iff.1 h
    simp only [List.map_cons, cOpers_bare his]
    congr 1
    have := cOper_live hio
    cases io; simp only at this; subst this; rfl

theorem strip_ann (rt : List Nat) : ∀ (c : IC) (xs : List (Nat × List Nat)) (l : List Nat), strip (ann rt c xs l).1 = strip c
  | .skip, _, _ => rfl
  | .reg d t ops k, _, l => by
    simp only [ann, strip]
    congr 1
    split
    · rfl
    · exact mark_bare 0 ops l
  | .seq a b, xs, l => by simp only [ann, strip]; rw [strip_ann rt a, strip_ann rt b]
  | .cond c a b, xs, l => by simp only [ann, strip]; rw [strip_ann rt a, strip_ann rt b]
  | .block id b, xs, l => by simp only [ann, strip]; rw [strip_ann rt b]
  | .loop k b, xs, l => by simp only [ann, strip]; rw [strip_ann rt b]
  | .scope b, xs, l => by simp only [ann, strip]; rw [strip_ann rt b]
  | .rega t k, xs, l => rfl
  | .exit id, _, _ => rfl
  | .ret, _, _ => rfl
  | .bad, _, _ => rfl

/-- what a region is brought to -/
theorem region_inv {P : Program} {C : Cfg} {N id : Nat} {ops : Array Oper} {draw : Bool} {x : IC} (h : cCode P C N (.region id ops draw) = some x) :
    x = .bad ∨ (∃ at_ tags is, x = .reg draw tags is [] ∧ cOpers P C N at_ ops ops.toList = some is ∧ ((draw = false ∧ tags = []) ∨ drawOk ops.toList is = true)) ∨
      ∃ is t, x = .rega (t.toDT is) [] ∧ cOpers P C N false ops ops.toList = some is ∧ draw = true ∧ dtChk ops.toList is t = true := by
  simp only [cCode] at h
  split at h
  · rename_i is his
    split at h
    · rename_i hd
      injection h with h
      refine .inr (.inl ⟨false, [], is, h.symm, his, ?_⟩)
      rcases hd with hd | hd
      · exact .inl ⟨hd, rfl⟩
      · exact .inr hd
    · split at h
      · rename_i is' his'
        split at h
        · rename_i hd
          injection h with h
          exact .inr (.inl ⟨true, _, is', h.symm, his', .inr hd⟩)
        · split at h
          · rename_i hd
            injection h with h
            exact .inr (.inr ⟨is, _, h.symm, his, hd.1, hd.2⟩)
          · injection h with h; exact .inl h.symm
      · injection h with h; exact .inl h.symm
  · injection h with h; exact .inl h.symm

theorem strip_cCode {P : Program} {C : Cfg} {N : Nat} : ∀ (c : Code) (ic : IC), cCode P C N c = some ic → strip ic = ic
  | .skip, ic, h => by simp [cCode] at h; subst h; rfl
  | .region id ops draw, ic, h => by
    rcases region_inv h with rfl | ⟨_, _, is, rfl, his, _⟩ | ⟨is, t, rfl, _⟩
    · rfl
    · simp only [strip, cOpers_bare his]
    · rfl
  | .seq a b, ic, h => by
    simp only [cCode] at h
    obtain ⟨a', ha, h⟩ := Option.bind_eq_some_iff.1 h
    obtain ⟨b', hb, rfl⟩ := Option.map_eq_some_iff.1 h
    simp only [strip]; rw [strip_cCode a a' ha, strip_cCode b b' hb]
  | .cond c a b, ic, h => by
    simp only [cCode] at h
    split at h
    · obtain ⟨a', ha, h⟩ := Option.bind_eq_some_iff.1 h
      obtain ⟨b', hb, rfl⟩ := Option.map_eq_some_iff.1 h
      simp only [strip]; rw [strip_cCode a a' ha, strip_cCode b b' hb]
    · injection h with h; subst h; rfl
  | .block id b, ic, h => by
    simp only [cCode] at h
    obtain ⟨b', hb, rfl⟩ := Option.map_eq_some_iff.1 h
    simp only [strip]; rw [strip_cCode b b' hb]
  | .loop b, ic, h => by
    simp only [cCode] at h
    obtain ⟨b', hb, rfl⟩ := Option.map_eq_some_iff.1 h
    simp only [strip]; rw [strip_cCode b b' hb]
  | .scope b, ic, h => by
    simp only [cCode] at h
    obtain ⟨b', hb, rfl⟩ := Option.map_eq_some_iff.1 h
    simp only [strip]; rw [strip_cCode b b' hb]
  | .exit id, ic, h => by simp [cCode] at h; subst h; rfl
  | .ret, ic, h => by simp [cCode] at h; subst h; rfl
  | .rangeFunc .., ic, h => by simp [cCode] at h; subst h; rfl
  | .label _, ic, h => by simp [cCode] at h; subst h; rfl
  | .goto _, ic, h => by simp [cCode] at h; subst h; rfl
  | .refuse _, ic, h => by simp [cCode] at h; subst h; rfl

def exOf : Ex → Exit
  | .normal => .normal
  | .ret => .ret
  | .exit id => .exit id

section
variable {P : Program} {C : Cfg} {im : Md} {B N : Nat} {F F' : Nat → Prop} {H H' : List AO} {ρ ρ' : List Value} {w w' : World} {x y : Value} {e : Env} {a : Act}

theorem Sim.drew (h : Sim C B F H ρ N e a w) : After C B F H ρ w N e H a w.drew ρ F := by
  have hb : Below w.heap.size w w.drew := (Below.refl _ _).drew
  exact ⟨⟨h.hp.grow hb, h.defers, h.size, fun i => (h.env i).mono (Ev.refl _ _) (fun _ x => x) (fun _ _ => rfl), h.glob.mono (fun _ x => x) (fun _ _ => rfl)⟩, Ev.refl _ _, Kept.of_below hb, fun _ x => x, fun _ x => .inl x⟩

/-- What holds behind a piece of code, by the way in which it ends. -/
def CodeOk (C : Cfg) (P : Program) (tbl : TB) (k : Nat) : Prop :=
  ∀ (N B : Nat) (c : Code) (ic : IC) (e : Env) (H : List AO) (ρ : List Value) (F : Nat → Prop) (a : Act) (w : World) (ex : Ex) (e' : Env) (H' : List AO), cCode P C N c = some (strip ic) → exN tbl k ic e H = some (ex, e', H') → Sim C B F H ρ N e a w →
    c.wp P (fun en a' w' => ∃ ρ' F', en = exOf ex ∧ After C B F H ρ w N e' H' a' w' ρ' F') a w

theorem loop_sound {tbl : TB} : ∀ (k : Nat), (∀ j, j < k → CodeOk C P tbl j) → ∀ (c : Code) (keep : List Nat) (ib : IC) (e : Env) (H : List AO) (ρ : List Value) (F : Nat → Prop) (a : Act) (w : World) (ex : Ex) (e' : Env) (H' : List AO),
    cCode P C N c = some (strip ib) → exN tbl k (.loop keep ib) e H = some (ex, e', H') → Sim C B F H ρ N e a w →
    ∀ (Q : Exit → Act → World → Prop), (∀ a' w' ρ' F', After C B F H ρ w N e' H' a' w' ρ' F' → Q (exOf ex) a' w') → Code.rounds P c Q k a w
  | 0, _, c, keep, ib, e, H, ρ, F, a, w, ex, e', H', hc, h, hs, Q, hQ => by simp [exN] at h
  | k + 1, hA, c, keep, ib, e, H, ρ, F, a, w, ex, e', H', hc, h, hs, Q, hQ => by
    simp only [exN] at h
    obtain ⟨r, hr, h⟩ := Option.bind_eq_some_iff.1 h
    obtain ⟨ex1, e1, H1⟩ := r
    have hbody := hA k (by omega) N B c ib (scrub keep e) H ρ F a w ex1 e1 H1 hc hr (hs.scrub keep)
    rw [rounds_succ]
    refine Code.wp_mono ?_ hbody
    rintro en a1 w1 ⟨ρ1, F1, rfl, haft⟩
    cases ex1 with
    | normal =>
      simp only [thenEx] at h
      simp only [exOf, Exit.then]
      exact loop_sound k (fun j hj => hA j (by omega)) c keep ib e1 H1 ρ1 F1 a1 w1 ex e' H' hc h haft.sim Q (fun a2 w2 ρ2 F2 h2 => hQ a2 w2 ρ2 F2 (haft.trans h2))
    | ret =>
      simp only [thenEx, Option.some.injEq, Prod.mk.injEq] at h
      obtain ⟨rfl, rfl, rfl⟩ := h
      exact hQ a1 w1 ρ1 F1 haft
    | exit id =>
      simp only [thenEx, Option.some.injEq, Prod.mk.injEq] at h
      obtain ⟨rfl, rfl, rfl⟩ := h
      exact hQ a1 w1 ρ1 F1 haft

/-- places are kept ahead -/
theorem Sim.rsv : ∀ (tags : List Nat) {H : List AO} {ρ : List Value} (_ : Sim C B F H ρ N e a w), ∃ ρ', Sim C B F (H ++ tags.map .rsv) ρ' N e a w ∧ Ev H ρ (H ++ tags.map .rsv) ρ'
  | [], H, ρ, hs => ⟨ρ, by simpa using hs, by simpa using Ev.refl H ρ⟩
  | t :: r, H, ρ, hs => by
    have hp := hs.hp.pushRsv t
    have ev := Ev.push H ρ [.rsv t] [undef] hs.hp.len
    have h1 : Sim C B F (H ++ [.rsv t]) (ρ ++ [undef]) N e a w := ⟨hp, hs.defers, hs.size, fun i => (hs.env i).mono ev (fun _ x => x) (fun _ _ => rfl), hs.glob⟩
    obtain ⟨ρ', h2, h3⟩ := Sim.rsv r h1
    refine ⟨ρ', by simpa using h2, ?_⟩
    have := ev.trans h3
    simpa using this

theorem code_step {tbl : TB} (hm : P.follows .mixedOrders = true) (k : Nat) (hφ : PhiOk C P (phiN tbl k)) (hA : ∀ j, j < k + 1 → CodeOk C P tbl j) : CodeOk C P tbl (k + 1) := by
  intro N B c ic e H ρ F a w ex e' H' hc h hs
  have notBad : strip ic ≠ .bad := by
    intro hb
    cases ic <;> simp [strip] at hb
    simp [exN] at h
  cases c with
  | skip =>
    simp only [cCode, Option.some.injEq] at hc
    cases ic <;> simp [strip] at hc
    simp only [exN, Option.some.injEq, Prod.mk.injEq] at h
    obtain ⟨rfl, rfl, rfl⟩ := h
    exact wp_skip ⟨ρ, F, rfl, After.refl hs⟩
  | label l =>
    simp only [cCode, Option.some.injEq] at hc
    cases ic <;> simp [strip] at hc
    simp only [exN, Option.some.injEq, Prod.mk.injEq] at h
    obtain ⟨rfl, rfl, rfl⟩ := h
    exact wp_label ⟨ρ, F, rfl, After.refl hs⟩
  | region id cops draw =>
    rcases region_inv hc with hb | ⟨at_, tags, is, hx, his, hdraw⟩ | ⟨is, t, hx, his, hdraw, hd⟩
    · exact absurd hb notBad
    rotate_left
    · clear hc notBad
      cases ic <;> simp [strip] at hx
      rename_i t0 keep
      subst hx
      simp only [exN] at h
      obtain ⟨r, hr, h⟩ := Option.map_eq_some_iff.1 h
      obtain ⟨e1, H1⟩ := r
      simp only [Prod.mk.injEq] at h
      obtain ⟨rfl, rfl, rfl⟩ := h
      subst hdraw
      have h1 := hs.drew
      refine wp_region_any hm ?_
      refine drawT_sound hφ his hd hr h1.sim (fun e2 a' w' ρ' F' he2 haft => ⟨ρ', F', rfl, ?_⟩)
      have h2 := (h1.trans haft).scrub keep
      have : scrub keep e2 = scrub keep e1 := List.map_congr_left (fun i hi => by rw [he2 i hi])
      rw [this] at h2
      exact h2
    clear hc notBad
    cases ic <;> simp [strip] at hx
    rename_i d0 t0 o0 keep
    obtain ⟨rfl, rfl, rfl⟩ := hx
    have hbare := cOpers_bare his
    simp only [exN] at h
    obtain ⟨r, hr, h⟩ := Option.map_eq_some_iff.1 h
    obtain ⟨e1, H1⟩ := r
    simp only [Prod.mk.injEq] at h
    obtain ⟨rfl, rfl, rfl⟩ := h
    cases d0 with
    | false =>
      refine wp_region_list ?_
      obtain ⟨ρ1, hs1, ev1⟩ := Sim.rsv t0 hs
      simp only [Bool.false_eq_true, if_false] at hr
      refine ops_sound hφ cops.toList o0 e _ ρ1 F a w e1 H1 his hr hs1 (fun a' w' ρ' F' haft => ⟨ρ', F', rfl, ?_⟩)
      have : After C B F H ρ w N e1 H1 a' w' ρ' F' := ⟨haft.sim, ev1.trans haft.ev, haft.kept, haft.sub, haft.bnd⟩
      exact this.scrub keep
    | true =>
      simp only [if_true] at hr
      have hd : drawOk cops.toList (o0.map IOper.bare) = true := by
        rcases hdraw with ⟨h1, _⟩ | h1
        · cases h1
        · exact h1
      have h1 := hs.drew
      obtain ⟨ρ1, hs1, ev1⟩ := Sim.rsv t0 h1.sim
      refine wp_region_any hm ?_
      refine draw_sound hφ his hd hr hs1 (fun a' w' ρ' F' haft => ⟨ρ', F', rfl, ?_⟩)
      have h2 : After C B F H ρ w.drew N e1 H1 a' w' ρ' F' := ⟨haft.sim, ev1.trans haft.ev, haft.kept, haft.sub, haft.bnd⟩
      exact (h1.trans h2).scrub keep
  | seq ca cb =>
    simp only [cCode] at hc
    obtain ⟨a', ha', hx⟩ := Option.bind_eq_some_iff.1 hc
    obtain ⟨b', hb', hy⟩ := Option.map_eq_some_iff.1 hx
    clear hc hx notBad
    cases ic <;> simp [strip] at hy
    rename_i ia ib
    obtain ⟨rfl, rfl⟩ := hy
    simp only [exN] at h
    obtain ⟨r, hr, h⟩ := Option.bind_eq_some_iff.1 h
    obtain ⟨ex1, e1, H1⟩ := r
    have h1 := hA k (by omega) N B ca ia e H ρ F a w ex1 e1 H1 ha' hr hs
    refine wp_seq (Code.wp_mono ?_ h1)
    rintro en a1 w1 ⟨ρ1, F1, rfl, haft⟩
    cases ex1 with
    | normal =>
      simp only [thenEx] at h
      simp only [exOf, Exit.then]
      have h2 := hA k (by omega) N B cb ib e1 H1 ρ1 F1 a1 w1 ex e' H' hb' h haft.sim
      refine Code.wp_mono ?_ h2
      rintro en a2 w2 ⟨ρ2, F2, rfl, haft2⟩
      exact ⟨ρ2, F2, rfl, haft.trans haft2⟩
    | ret =>
      simp only [thenEx, Option.some.injEq, Prod.mk.injEq] at h
      obtain ⟨rfl, rfl, rfl⟩ := h
      exact ⟨ρ1, F1, rfl, haft⟩
    | exit id =>
      simp only [thenEx, Option.some.injEq, Prod.mk.injEq] at h
      obtain ⟨rfl, rfl, rfl⟩ := h
      exact ⟨ρ1, F1, rfl, haft⟩
  | cond cc ca cb =>
    simp only [cCode] at hc
    split at hc
    · rename_i c' hc'
      obtain ⟨a', ha', hx⟩ := Option.bind_eq_some_iff.1 hc
      obtain ⟨b', hb', hy⟩ := Option.map_eq_some_iff.1 hx
      clear hc hx notBad
      cases ic <;> simp [strip] at hy
      rename_i ic ia ib
      obtain ⟨rfl, rfl, rfl⟩ := hy
      simp only [exN, onBool] at h
      have hv := opd_ok hs hc'
      split at h
      · rename_i t ht
        rw [ht] at hv
        refine wp_cond (t := t) hv.bool_inv ?_
        cases t with
        | true =>
          simp only [if_true] at h ⊢
          exact hA k (by omega) N B ca ia e H ρ F a w ex e' H' ha' h hs
        | false =>
          simp only [Bool.false_eq_true, if_false] at h ⊢
          exact hA k (by omega) N B cb ib e H ρ F a w ex e' H' hb' h hs
      · cases h
    · injection hc with hc; exact absurd hc.symm notBad
  | block id' cb =>
    simp only [cCode] at hc
    obtain ⟨b', hb', hy⟩ := Option.map_eq_some_iff.1 hc
    clear hc notBad
    cases ic <;> simp [strip] at hy
    rename_i id ib
    obtain ⟨rfl, rfl⟩ := hy
    simp only [exN] at h
    obtain ⟨r, hr, h⟩ := Option.map_eq_some_iff.1 h
    obtain ⟨ex1, e1, H1⟩ := r
    have h1 := hA k (by omega) N B cb ib e H ρ F a w ex1 e1 H1 hb' hr hs
    refine wp_block (Code.wp_mono ?_ h1)
    rintro en a1 w1 ⟨ρ1, F1, rfl, haft⟩
    cases ex1 with
    | normal =>
      simp only [outBlock, Prod.mk.injEq] at h
      obtain ⟨rfl, rfl, rfl⟩ := h
      exact ⟨ρ1, F1, rfl, haft⟩
    | ret =>
      simp only [outBlock, Prod.mk.injEq] at h
      obtain ⟨rfl, rfl, rfl⟩ := h
      exact ⟨ρ1, F1, rfl, haft⟩
    | exit i =>
      simp only [outBlock] at h
      simp only [exOf, Exit.inBlock]
      by_cases hi : i = id'
      · rw [if_pos hi] at h ⊢
        simp only [Prod.mk.injEq] at h
        obtain ⟨rfl, rfl, rfl⟩ := h
        exact ⟨ρ1, F1, rfl, haft⟩
      · rw [if_neg hi] at h ⊢
        simp only [Prod.mk.injEq] at h
        obtain ⟨rfl, rfl, rfl⟩ := h
        exact ⟨ρ1, F1, rfl, haft⟩
  | scope cb =>
    simp only [cCode] at hc
    obtain ⟨b', hb', hy⟩ := Option.map_eq_some_iff.1 hc
    clear hc notBad
    cases ic <;> simp [strip] at hy
    rename_i ib
    subst hy
    simp only [exN] at h
    have h1 := hA k (by omega) N B cb ib e H ρ F a w ex e' H' hb' h hs
    refine wp_scope_straight (Code.wp_mono ?_ h1)
    rintro en a1 w1 ⟨ρ1, F1, rfl, haft⟩
    cases ex <;> exact ⟨ρ1, F1, rfl, haft⟩
  | loop cb =>
    simp only [cCode] at hc
    obtain ⟨b', hb', hy⟩ := Option.map_eq_some_iff.1 hc
    clear hc notBad
    cases ic <;> simp [strip] at hy
    rename_i keep ib
    subst hy
    refine wp_loop_rounds (k + 1) ?_
    exact loop_sound (k + 1) hA cb keep ib e H ρ F a w ex e' H' hb' h hs _ (fun a' w' ρ' F' haft => ⟨ρ', F', rfl, haft⟩)
  | exit id' =>
    simp only [cCode, Option.some.injEq] at hc
    cases ic <;> simp [strip] at hc
    subst hc
    simp only [exN, Option.some.injEq, Prod.mk.injEq] at h
    obtain ⟨rfl, rfl, rfl⟩ := h
    exact wp_exit ⟨ρ, F, rfl, After.refl hs⟩
  | ret =>
    simp only [cCode, Option.some.injEq] at hc
    cases ic <;> simp [strip] at hc
    simp only [exN, Option.some.injEq, Prod.mk.injEq] at h
    obtain ⟨rfl, rfl, rfl⟩ := h
    exact wp_ret ⟨ρ, F, rfl, After.refl hs⟩
  | _ =>
    simp only [cCode, Option.some.injEq] at hc
    exact absurd hc.symm notBad

/- results -/
def resSem (tmps : Array Value) : ResultVar → Sem Value
  | .tmp t => pure (tmps.getD t undef)
  | .cell p t => do loadVar t (← asAddr (tmps.getD p undef))

theorem results_eq (fn : Func) (tmps : Array Value) : results fn tmps = (do let vs ← fn.results.mapM (resSem tmps); pure (if h : vs.size = 1 then vs[0] else .tuple vs)) := by
  unfold results
  congr 2

theorem res_ok (hs : Sim C B F H ρ N e a w) : ∀ (l : List ResultVar) (rs : List IRes) (vs : List AV), cRes P l = some rs → resVals e H rs = some vs →
    ∃ us : List Value, (l.mapM (resSem a.tmps)).run P w = .ok us w ∧ vs.length = us.length ∧
      ∀ (j : Nat) (c : AV) (u : Value), vs[j]? = some c → us[j]? = some u → VR H ρ F w c u
  | [], rs, vs, hc, hv => by
    simp [cRes] at hc; subst hc
    simp [resVals] at hv; subst hv
    exact ⟨[], by simp, rfl, fun j c u hc => by simp at hc⟩
  | .tmp t :: r, rs, vs, hc, hv => by
    simp only [cRes] at hc
    obtain ⟨rs', hrs, rfl⟩ := Option.map_eq_some_iff.1 hc
    simp only [resVals] at hv
    obtain ⟨vs', hvs, rfl⟩ := Option.map_eq_some_iff.1 hv
    obtain ⟨us, h1, h2, h3⟩ := res_ok hs r rs' vs' hrs hvs
    refine ⟨a.tmps.getD t undef :: us, by simp [List.mapM_cons, resSem, h1], by simp [h2], fun j c u hc hu => ?_⟩
    cases j with
    | zero => simp at hc hu; subst hc; rw [← hu]; have := hs.env t; simpa using this
    | succ j => exact h3 j c u (by simpa using hc) (by simpa using hu)
  | .cell p t :: r, rs, vs, hc, hv => by
    simp only [cRes] at hc
    obtain ⟨s, hsz, hc⟩ := Option.bind_eq_some_iff.1 hc
    split at hc
    case isFalse => cases hc
    obtain ⟨rs', hrs, rfl⟩ := Option.map_eq_some_iff.1 hc
    simp only [resVals] at hv
    obtain ⟨v, hv0, hv⟩ := Option.bind_eq_some_iff.1 hv
    obtain ⟨vs', hvs, rfl⟩ := Option.map_eq_some_iff.1 hv
    obtain ⟨us, h1, h2, h3⟩ := res_ok hs r rs' vs' hrs hvs
    obtain ⟨u0, hl1, hl2⟩ := load_ok hs.hp hsz (hs.env p) hv0
    obtain ⟨q, hq, _⟩ := Option.bind_eq_some_iff.1 hv0
    obtain ⟨ad, _, had, _⟩ := pelem_ok hs.hp (hs.env p) hq
    rw [had] at hl1
    have hl1' : (loadVar t ad).run P w = .ok u0 w := by simpa [Instr.loadAt, Instr.sureAddr] using hl1
    refine ⟨u0 :: us, ?_, by simp [h2], fun j c u hc hu => ?_⟩
    · have had' : a.tmps[p]?.getD undef = .pointer (some ad) := by simpa [Array.getD_eq_getD_getElem?] using had
      simp [List.mapM_cons, resSem, had', asAddr, hl1', h1]
    · cases j with
      | zero => simp at hc hu; subst hc hu; exact hl2
      | succ j => exact h3 j c u (by simpa using hc) (by simpa using hu)

theorem bind_get : ∀ (args : List AV) (k i : Nat), (bindArgs k args).get i = if k ≤ i then (args[i - k]?).getD .top else .top
  | [], k, i => by simp [bindArgs, Env.get]
  | v :: r, k, i => by
    simp only [bindArgs, Env.get]
    rw [bind_get r (k + 1) i]
    by_cases h : k = i
    · subst h; simp
    · rw [if_neg h]
      by_cases h2 : k ≤ i
      · rw [if_pos h2, if_pos (by omega), show i - k = (i - (k + 1)) + 1 by omega]; simp
      · rw [if_neg h2, if_neg (by omega)]

/-- the functions' table is the program's; what is said of others holds -/
structure TBok (P : Program) (C : Cfg) (tbl : TB) : Prop where
  fn : ∀ f fn, tbl.fn f = some fn → cFn P C f = some fn
  ext : ∀ f args res rows, tbl.fn f = none → tbl.ext f args = some (res, rows) → FnOk C P f args res rows ∧ Callee' P f
  extO : ∀ f args H res H', tbl.fn f = none → tbl.extO f args H = some (res, H') → FnOkO C P f args H res H' ∧ Callee' P f

/-- a call in the caller's frame -/
theorem fn_soundO {tbl : TB} (ht : TBok P C tbl) (k : Nat) (hA : CodeOk C P tbl k) {f : Nat} {args : List AV} {res : AV} (h : callO tbl k f args H = some (res, H')) : FnOkO C P f args H res H' ∧ Callee' P f := by
  unfold callO at h
  split at h
  case h_2 => exact ht.extO f args H res H' (by assumption) h
  rename_i fn hfn
  split at h
  case isFalse => cases h
  rename_i hnp
  obtain ⟨r, hr, h⟩ := Option.bind_eq_some_iff.1 h
  obtain ⟨ex, e', H1⟩ := r
  have hcf := ht.fn f fn hfn
  unfold cFn at hcf
  obtain ⟨g, hg, hcf⟩ := Option.bind_eq_some_iff.1 hcf
  obtain ⟨c, hcb, hcf⟩ := Option.bind_eq_some_iff.1 hcf
  obtain ⟨ic, hic, hcf⟩ := Option.bind_eq_some_iff.1 hcf
  obtain ⟨rs, hrs, hcf⟩ := Option.bind_eq_some_iff.1 hcf
  split at hcf
  case isFalse => cases hcf
  rename_i hcond
  injection hcf with hcf; subst hcf
  simp only at hnp hr h
  have hex : exOf ex = .normal ∨ exOf ex = .ret := by cases ex <;> first | exact .inl rfl | exact .inr rfl | (simp [finishO] at h)
  have hret : (resVals e' H1 rs).map (fun vs => (packV vs, H1)) = some (res, H') := by cases ex <;> first | exact h | (simp [finishO] at h)
  obtain ⟨vs, hvs, hret⟩ := Option.map_eq_some_iff.1 hret
  simp only [Prod.mk.injEq] at hret
  obtain ⟨hres, rfl⟩ := hret
  refine ⟨fun B F ρ w avs hp hgl hl hvr => ?_, g, c, hg, hcb, hcond.2⟩
  have hsz : avs.length ≤ g.ntmps := by rw [← hl, hnp]; exact hcond.1
  have hsim : Sim C B F H ρ g.ntmps (bindArgs 0 args) { tmps := avs.toArray ++ Array.replicate (g.ntmps - avs.toArray.size) undef, defers := [] } w := by
    refine ⟨hp, rfl, by simp; omega, fun i => ?_, hgl⟩
    rw [bind_get]
    simp only [Nat.zero_le, if_true, Nat.sub_zero]
    cases hi : args[i]? with
    | none => exact .imm (.top _)
    | some c0 =>
      obtain ⟨u, hu⟩ := getElem?_of_len hl hi
      have hilt := lt_of_some hu
      have : (avs.toArray ++ Array.replicate (g.ntmps - avs.toArray.size) undef).getD i undef = u := by
        rw [Array.getD_eq_getD_getElem?, Array.getElem?_append_left (by simpa using hilt)]
        simp [hu]
      rw [this]
      exact hvr i c0 u hi hu
  have hstrip : cCode P C g.ntmps c = some (strip (ann (rs.map resTmp) ic [] []).1) := by rw [strip_ann, strip_cCode c ic hic]; exact hic
  refine calls_of_wp hg hcb ?_
  refine Code.wp_mono ?_ (hA g.ntmps B c _ _ H ρ F _ w ex e' H1 hstrip hr hsim)
  rintro en a' w' ⟨ρ', F', rfl, haft⟩
  obtain ⟨us, hu1, hu2, hu3⟩ := res_ok haft.sim g.results.toList rs vs hrs hvs
  have hrun : (results g a'.tmps).run P w' = .ok (if h : us.toArray.size = 1 then us.toArray[0] else .tuple us.toArray) w' := by
    rw [results_eq, Array.mapM_eq_mapM_toList]
    simp only [Sem.run_bind, Sem.run_map]
    rw [hu1]
    simp
  have hval : VR H1 ρ' F' w' res (if h : us.toArray.size = 1 then us.toArray[0] else .tuple us.toArray) := by
    rw [← hres]
    match vs, us, hu2, hu3 with
    | [v], [u], _, hu3 => exact hu3 0 v u rfl rfl
    | [], [], _, hu3 => exact .tup [] [] rfl hu3
    | v :: v' :: r, u :: u' :: r', hl2, hu3 => exact .tup _ (u :: u' :: r') hl2 hu3
  have post : bodyPost P g (fun en w' => ∃ v ρ' F', en = .returned v ∧ Post B F H ρ w res H1 v w' ρ' F') .ret a' w' :=
    ⟨haft.sim.defers, _, hrun, _, ρ', F', rfl, haft.sim.hp, hval, haft.ev, haft.kept, haft.sub, haft.bnd⟩
  rcases hex with hex | hex <;> rw [hex] <;> exact post

theorem fn_sound {tbl : TB} (ht : TBok P C tbl) (k : Nat) (hA : CodeOk C P tbl k) : PhiOk C P (phiN tbl k) := by
  refine ⟨fun f args res rows h => ?_, fun f args H res H' h => fn_soundO ht k hA h⟩
  have h : callN tbl k f args = some (res, rows) := h
  unfold callN at h
  cases hfn : tbl.fn f with
  | none => rw [hfn] at h; exact ht.ext f args res rows hfn h
  | some fn => ?_
  rw [hfn] at h
  simp only at h
  split at h
  case isFalse => cases h
  rename_i hnp
  obtain ⟨r, hr, h⟩ := Option.bind_eq_some_iff.1 h
  obtain ⟨ex, e', H'⟩ := r
  have hcf := ht.fn f fn hfn
  unfold cFn at hcf
  obtain ⟨g, hg, hcf⟩ := Option.bind_eq_some_iff.1 hcf
  obtain ⟨c, hcb, hcf⟩ := Option.bind_eq_some_iff.1 hcf
  obtain ⟨ic, hic, hcf⟩ := Option.bind_eq_some_iff.1 hcf
  obtain ⟨rs, hrs, hcf⟩ := Option.bind_eq_some_iff.1 hcf
  split at hcf
  case isFalse => cases hcf
  rename_i hcond
  injection hcf with hcf; subst hcf
  simp only at hnp hr h
  have hex : exOf ex = .normal ∨ exOf ex = .ret := by cases ex <;> first | exact .inl rfl | exact .inr rfl | (simp [finish] at h)
  have hret : retVal e' H' rs = some (res, rows) := by cases ex <;> first | exact h | (simp [finish] at h)
  unfold retVal at hret
  obtain ⟨vs, hvs, hret⟩ := Option.map_eq_some_iff.1 hret
  simp only [Prod.mk.injEq] at hret
  obtain ⟨hres, hrows⟩ := hret
  generalize hH1 : closeL (vs.flatMap refs1) H' = H1 at hres hrows
  have core : ∀ (F : Nat → Prop) (w : World) (avs : List Value), (∀ b, F b → b < w.heap.size) → Glob C F w → args.length = avs.length → (∀ (j : Nat) (c : AV) (u : Value), args[j]? = some c → avs[j]? = some u → IR F w c u) →
      c.wp P (fun en a' w' => (en = .normal ∨ en = .ret) ∧ ∃ ρ' F', After C w.heap.size F [] [] w g.ntmps e' H' a' w' ρ' F') { tmps := avs.toArray ++ Array.replicate (g.ntmps - avs.toArray.size) undef, defers := [] } w := by
    intro F w avs hFb hgl hl hir
    have hsz : avs.length ≤ g.ntmps := by rw [← hl, hnp]; exact hcond.1
    have hsim : Sim C w.heap.size F [] [] g.ntmps (bindArgs 0 args) { tmps := avs.toArray ++ Array.replicate (g.ntmps - avs.toArray.size) undef, defers := [] } w := by
      refine ⟨⟨rfl, Nat.le_refl _, hFb, fun id T s g es h => by simp at h, fun id T s e h => by simp at h, fun id s g es h => by simp at h, fun id d h => by simp at h, fun id T s g es h => by simp at h, fun id id' o o' v v' b h => by simp at h⟩, rfl, by simp; omega, fun i => ?_, hgl⟩
      rw [bind_get]
      simp only [Nat.zero_le, if_true, Nat.sub_zero]
      cases hi : args[i]? with
      | none => exact .imm (.top _)
      | some c0 =>
        obtain ⟨u, hu⟩ := getElem?_of_len hl hi
        have hilt := lt_of_some hu
        have : (avs.toArray ++ Array.replicate (g.ntmps - avs.toArray.size) undef).getD i undef = u := by
          rw [Array.getD_eq_getD_getElem?, Array.getElem?_append_left (by simpa using hilt)]
          simp [hu]
        rw [this]
        exact .imm (hir i c0 u hi hu)
    have hstrip : cCode P C g.ntmps c = some (strip (ann (rs.map resTmp) ic [] []).1) := by rw [strip_ann, strip_cCode c ic hic]; exact hic
    refine Code.wp_mono ?_ (hA g.ntmps w.heap.size c _ _ [] [] F _ w ex e' H' hstrip hr hsim)
    rintro en a' w' ⟨ρ', F', rfl, haft⟩
    exact ⟨hex, ρ', F', haft⟩
  have hrowsRow : ∀ o ∈ rows, o.isRow = true := by
    subst hrows
    have gen : ∀ (vs : List AV) (x : XS), (∀ o ∈ x.rows, o.isRow = true) → ∀ o ∈ (expV H1 vs x).2.rows, o.isRow = true := by
      have g0 : ∀ (v : AV) (x : XS), (∀ o ∈ x.rows, o.isRow = true) → ∀ o ∈ (exp0 H1 v x).2.rows, o.isRow = true := by
        intro v x hx
        cases v <;> simp only [exp0] <;> try exact hx
        split
        · exact hx
        · split
          · split
            · intro o ho
              simp only [List.mem_append, List.mem_singleton] at ho
              rcases ho with ho | rfl
              · exact hx o ho
              · rfl
            · exact hx
          · exact hx
      have gL : ∀ (vs : List AV) (x : XS), (∀ o ∈ x.rows, o.isRow = true) → ∀ o ∈ (expL H1 vs x).2.rows, o.isRow = true := by
        intro vs
        induction vs with
        | nil => intro x hx; exact hx
        | cons v r ih => intro x hx; simp only [expL]; exact ih _ (g0 v x hx)
      intro vs
      induction vs with
      | nil => intro x hx; exact hx
      | cons v r ih =>
        intro x hx
        simp only [expV]
        refine ih _ ?_
        cases v <;> simp only [exp1] <;> first | exact g0 _ x hx | exact gL _ x hx
    exact gen vs _ (fun o ho => by cases ho)
  refine ⟨⟨hrowsRow, fun F w avs hFb hgl hl hir => ?_⟩, g, c, hg, hcb, hcond.2⟩
  refine calls_of_wp hg hcb ?_
  refine Code.wp_mono ?_ (core F w avs hFb hgl hl hir)
  rintro en a' w' ⟨hen, ρ', F', haft⟩
  obtain ⟨us, hu1, hu2, hu3⟩ := res_ok haft.sim g.results.toList rs vs hrs hvs
  obtain ⟨F2, hp2, ev2, a2, b2, _⟩ := haft.sim.hp.closeL (vs.flatMap refs1)
  rw [hH1] at hp2 ev2
  replace hu3 := fun j c u hc hu => (hu3 j c u hc hu).mono ev2 a2 (fun _ _ => rfl)
  obtain ⟨L', hE1, hE2, hE3, hE4⟩ := expV_ok hp2 vs us _ [] hu2 hu3 (EI.nil (B := w.heap.size) (F := F2) (H := H1) (ρ := ρ') (w := w'))
  obtain ⟨hheap, _⟩ := hE1.heap hp2
  have hrel := hE4 _ L' hE1 (XE.refl _ _)
  have hrun : (results g a'.tmps).run P w' = .ok (if h : us.toArray.size = 1 then us.toArray[0] else .tuple us.toArray) w' := by
    rw [results_eq, Array.mapM_eq_mapM_toList]
    simp only [Sem.run_bind, Sem.run_map]
    rw [hu1]
    simp
  have post : bodyPost P g (fun en w' => ∃ v ρ' F', en = .returned v ∧ HeapRep w.heap.size F' rows ρ' w' ∧ RR2 rows ρ' F' w' res v ∧ Below w.heap.size w w' ∧ (∀ b, F b → F' b) ∧ (∀ b, F' b → F b ∨ w.heap.size ≤ b)) .ret a' w' := by
    refine ⟨haft.sim.defers, _, hrun, _, L'.map (·.2), FF w.heap.size F2 w' L', rfl, by rw [← hrows]; exact hheap, ?_, ?_, ?_, ?_⟩
    · rw [← hrows, ← hres]
      generalize hq : (expV H1 vs { E := [], U := [], rows := [] }).1 = ws at hE3 hrel
      have hlw := hE3.trans hu2
      clear hE3 hE4 hu1 hu2 hu3 hrun
      match ws, us, hlw, hrel with
      | [v], [u], _, hrel =>
        simp only
        left
        have := hrel 0 v u rfl rfl
        simpa using this
      | [], [], _, hrel => right; exact ⟨[], [], rfl, by simp, rfl, hrel⟩
      | v :: v' :: r, u :: u' :: r', hl2, hrel => right; exact ⟨_, u :: u' :: r', rfl, by simp, hl2, hrel⟩
    · exact ⟨haft.kept.os, haft.kept.tape, haft.kept.output, haft.kept.size, fun k hk => haft.kept.block k hk (.inl hk)⟩
    · exact fun b hb => .inl (a2 b (haft.sub b hb))
    · rintro b (hb | hb)
      · exact (b2 b hb).elim (haft.bnd b) .inr
      · exact .inr hb.1
  rcases hen with rfl | rfl
  · exact post
  · exact post

/-- THE SOUNDNESS OF THE INTERPRETER. -/
theorem sound {tbl : TB} (hm : P.follows .mixedOrders = true) (ht : TBok P C tbl) : ∀ k, CodeOk C P tbl k := by
  intro k
  induction k using Nat.strongRecOn with
  | _ k ih =>
    cases k with
    | zero => intro N B c ic e H ρ F a w ex e' H' _ h; simp [exN] at h
    | succ k => exact code_step hm k (fn_sound ht k (ih k (by omega))) ih

theorem callN_sound {tbl : TB} (hm : P.follows .mixedOrders = true) (ht : TBok P C tbl) {k f : Nat} {args : List AV} {res : AV} {rows : List AO} (h : callN tbl k f args = some (res, rows)) : FnOk C P f args res rows :=
  ((fn_sound ht k (sound hm ht k)).cl f args res rows h).1

end
end Go.PI
