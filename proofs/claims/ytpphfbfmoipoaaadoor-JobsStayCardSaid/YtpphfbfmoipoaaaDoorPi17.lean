/- A region that draws its order: whatever order the edges allow, it ends as in the order of its text. No condition. -/
import Derived.Test.YtpphfbfmoipoaaaDoorPi16
namespace Go.PI
open Go.RowKit

section
variable {P : Program} {C : Cfg} {at_ : Bool} {B N : Nat} {φ : Phi} {F : Nat → Prop} {H H1 H2 : List AO} {ρ : List Value} {w : World} {e : Env} {a : Act}

/-- what an operation looks at is there -/
theorem sc_op (hs : Sim C B F H ρ N e a w) {o : IOper} (hc : constOk o = true) : ∀ x ∈ rdOps o.op, inSc H (x.ev e) ∧ ∀ id ∈ refs1 (x.ev e), id < H.length := by
  intro x hx
  cases x with
  | t i => exact ⟨(hs.env i).inSc, (hs.env i).refs1⟩
  | c v =>
    simp only [constOk, List.all_eq_true] at hc
    have := hc (.c v) hx
    simp only at this
    cases v with
    | fn f cs => cases cs with
      | nil => exact ⟨trivial, fun id hid => by simp [OP.ev, refs1] at hid⟩
      | cons => simp [noHandle] at this
    | agg => cases this
    | tup => cases this
    | _ => first | (cases this; done) | exact ⟨trivial, fun id hid => by simp [OP.ev, refs1, refs0] at hid⟩

theorem rowRefs_mem {e : Env} : ∀ {ps : List (Nat × OP)} {id : Nat}, id ∈ rowRefs e ps → ∃ p ∈ ps, id ∈ refs1 (p.2.ev e)
  | [], id, h => by simp [rowRefs] at h
  | p :: r, id, h => by
    simp only [rowRefs, List.mem_append] at h
    rcases h with h | h
    · exact ⟨p, by simp, h⟩
    · obtain ⟨q, hq, h2⟩ := rowRefs_mem h; exact ⟨q, by simp [hq], h2⟩

set_option maxHeartbeats 4000000 in
/-- Two operations in either order. -/
theorem comm (hφ : PhiOk C P φ) (hs : Sim C B F H ρ N e a w) {p q : IOper} (hcp : constOk p = true) (hcq : constOk q = true) (hc : clsOk (cls p.op) (cls q.op) = true) {v u : AV}
    (h1 : aop φ p.op e H = some (v, H1)) (h2 : aop φ q.op e H1 = some (u, H2)) : ∃ H3, aop φ q.op e H = some (u, H3) ∧ aop φ p.op e H3 = some (v, H2) := by
  have scp := sc_op hs hcp
  have scq := sc_op hs hcq
  -- p hangs on no row
  by_cases hp0 : cls p.op = .q0
  · obtain ⟨r, hr⟩ := q0_form (φ := φ) hp0 e
    rw [hr] at h1
    obtain ⟨v', hv', h1⟩ := Option.map_eq_some_iff.1 h1
    simp only [Prod.mk.injEq] at h1
    obtain ⟨rfl, rfl⟩ := h1
    exact ⟨H2, h2, by rw [hr, hv']; rfl⟩
  by_cases hq0 : cls q.op = .q0
  · obtain ⟨r, hr⟩ := q0_form (φ := φ) hq0 e
    rw [hr] at h2
    obtain ⟨v', hv', h2⟩ := Option.map_eq_some_iff.1 h2
    simp only [Prod.mk.injEq] at h2
    obtain ⟨rfl, rfl⟩ := h2
    exact ⟨H, by rw [hr, hv']; rfl, h1⟩
  have loudSame : ∀ {o : IOp} {G G' : List AO} {d : AV}, (cls o = .fz ∨ cls o = .pu ∨ cls o = .na) → aop φ o e G = some (d, G') → HSame G G' := by
    intro o G G' d ho hh
    rcases ho with ho | ho | ho
    · obtain ⟨ids, _, rfl, _⟩ := fz_form ho hh; exact HSame.frz ids G
    · obtain ⟨ids, X, _, rfl, _⟩ := pu_form hφ ho hh; exact HSame.frzPush ids G X
    · obtain ⟨tag, T, s, z, i, _, hi, rfl, _, _⟩ := na_form ho hh; exact HSame.fill _ (rsvIdx_some hi)
  by_cases hpr : cls p.op = .rd ∨ cls p.op = .ix ∨ cls p.op = .lb
  · obtain ⟨f, hf⟩ := rd_form (φ := φ) hpr e
    have h1' := h1
    rw [hf.eq] at h1
    obtain ⟨v', hv', h1⟩ := Option.map_eq_some_iff.1 h1
    simp only [Prod.mk.injEq] at h1
    obtain ⟨rfl, rfl⟩ := h1
    refine ⟨H2, h2, ?_⟩
    by_cases hqr : cls q.op = .rd ∨ cls q.op = .ix ∨ cls q.op = .lb
    · obtain ⟨g, hg⟩ := rd_form (φ := φ) hqr e
      rw [hg.eq] at h2
      obtain ⟨u', _, h2⟩ := Option.map_eq_some_iff.1 h2
      simp only [Prod.mk.injEq] at h2
      obtain ⟨_, rfl⟩ := h2
      exact h1'
    by_cases hql : cls q.op = .fz ∨ cls q.op = .pu ∨ cls q.op = .na
    · rw [hf.eq, hf.same _ _ (loudSame hql h2) (hf.sc _ _ hv'), hv']; rfl
    -- stores, appends
    by_cases hlb : cls p.op = .lb
    · have hbox : ∀ (id T s : Nat) (el : AV), H2[id]? = some (AO.box T s el) ↔ H[id]? = some (AO.box T s el) := by
        intro id T s el
        cases hq : q.op <;> rw [hq] at hc hq0 hqr hql h2 <;> rw [hlb] at hc <;> simp [cls, clsOk] at hc hq0 hqr hql
        case storer n x y =>
          simp only [aop] at h2
          split at h2
          · obtain ⟨H', hH, h2⟩ := Option.map_eq_some_iff.1 h2
            simp only [Prod.mk.injEq] at h2
            obtain ⟨_, rfl⟩ := h2
            exact storer_box hH id T s el
          · cases h2
        case app T0 s0 x y =>
          simp only [aop] at h2
          obtain ⟨news, _, h2⟩ := Option.bind_eq_some_iff.1 h2
          exact app_box h2 id T s el
      exact (lb_box hlb hbox h1').2
    · have hix : cls p.op = .ix := by
        rcases hpr with h | h | h
        · exfalso
          rw [h] at hc
          revert hc hq0 hqr hql
          generalize cls q.op = cq
          cases cq <;> simp [clsOk]
        · exact h
        · exact absurd h hlb
      have hst : ∃ n p' v', astore n H p' v' = some H2 := by
        cases hq : q.op <;> rw [hq] at hc hq0 hqr hql h2 <;> rw [hix] at hc <;> simp [cls, clsOk] at hc hq0 hqr hql
        case store n x y =>
          simp only [aop] at h2
          obtain ⟨H', hH, h2⟩ := Option.map_eq_some_iff.1 h2
          simp only [Prod.mk.injEq] at h2
          obtain ⟨_, rfl⟩ := h2
          exact ⟨n, _, _, hH⟩
        case storer n x y =>
          simp only [aop] at h2
          split at h2
          · obtain ⟨H', hH, h2⟩ := Option.map_eq_some_iff.1 h2
            simp only [Prod.mk.injEq] at h2
            obtain ⟨_, rfl⟩ := h2
            exact ⟨n, _, _, hH⟩
          · cases h2
      obtain ⟨n, p', v'', hH⟩ := hst
      cases hp : p.op <;> rw [hp] at hix h1' <;> simp [cls] at hix
      case idx s x i =>
        simp only [aop] at h1' ⊢
        obtain ⟨k, hk, h1'⟩ := Option.bind_eq_some_iff.1 h1'
        obtain ⟨d, hd, h1'⟩ := Option.map_eq_some_iff.1 h1'
        simp only [Prod.mk.injEq] at h1'
        obtain ⟨rfl, _⟩ := h1'
        rw [hk]
        simp only [Option.bind_some]
        rw [idx_store hH, hd]; rfl
  by_cases hqr : cls q.op = .rd ∨ cls q.op = .ix ∨ cls q.op = .lb
  · obtain ⟨g, hg⟩ := rd_form (φ := φ) hqr e
    have h2' := h2
    rw [hg.eq] at h2
    obtain ⟨u', hu', h2⟩ := Option.map_eq_some_iff.1 h2
    simp only [Prod.mk.injEq] at h2
    obtain ⟨rfl, rfl⟩ := h2
    refine ⟨H, ?_, h1⟩
    by_cases hpl : cls p.op = .fz ∨ cls p.op = .pu ∨ cls p.op = .na
    · rw [hg.eq, ← hg.same _ _ (loudSame hpl h1) (fun x hx => (scq x hx).1), hu']; rfl
    by_cases hlb : cls q.op = .lb
    · have hbox : ∀ (id T s : Nat) (el : AV), H[id]? = some (AO.box T s el) ↔ H1[id]? = some (AO.box T s el) := by
        intro id T s el
        cases hp : p.op <;> rw [hp] at hc hp0 hpr hpl h1 <;> rw [hlb] at hc <;> simp [cls, clsOk] at hc hp0 hpr hpl
        case storer n x y =>
          simp only [aop] at h1
          split at h1
          · obtain ⟨H', hH, h1⟩ := Option.map_eq_some_iff.1 h1
            simp only [Prod.mk.injEq] at h1
            obtain ⟨_, rfl⟩ := h1
            exact (storer_box hH id T s el).symm
          · cases h1
        case app T0 s0 x y =>
          simp only [aop] at h1
          obtain ⟨news, _, h1⟩ := Option.bind_eq_some_iff.1 h1
          exact (app_box h1 id T s el).symm
      exact (lb_box hlb hbox h2').2
    · have hix : cls q.op = .ix := by
        rcases hqr with h | h | h
        · exfalso
          rw [h] at hc
          revert hc hp0 hpr hpl
          generalize cls p.op = cp
          cases cp <;> simp [clsOk]
        · exact h
        · exact absurd h hlb
      have hst : ∃ n p' v', astore n H p' v' = some H1 := by
        cases hp : p.op <;> rw [hp] at hc hp0 hpr hpl h1 <;> rw [hix] at hc <;> simp [cls, clsOk] at hc hp0 hpr hpl
        case store n x y =>
          simp only [aop] at h1
          obtain ⟨H', hH, h1⟩ := Option.map_eq_some_iff.1 h1
          simp only [Prod.mk.injEq] at h1
          obtain ⟨_, rfl⟩ := h1
          exact ⟨n, _, _, hH⟩
        case storer n x y =>
          simp only [aop] at h1
          split at h1
          · obtain ⟨H', hH, h1⟩ := Option.map_eq_some_iff.1 h1
            simp only [Prod.mk.injEq] at h1
            obtain ⟨_, rfl⟩ := h1
            exact ⟨n, _, _, hH⟩
          · cases h1
      obtain ⟨n, p', v'', hH⟩ := hst
      cases hq : q.op <;> rw [hq] at hix h2' <;> simp [cls] at hix
      case idx s x i =>
        simp only [aop] at h2' ⊢
        obtain ⟨k, hk, h2'⟩ := Option.bind_eq_some_iff.1 h2'
        obtain ⟨d, hd, h2'⟩ := Option.map_eq_some_iff.1 h2'
        simp only [Prod.mk.injEq] at h2'
        obtain ⟨rfl, _⟩ := h2'
        rw [hk]
        simp only [Option.bind_some]
        rw [idx_store hH] at hd
        rw [hd]; rfl
  -- both are among fz, pu, na
  have fzsc : ∀ {o : IOper} {ids : List Nat}, (∀ x ∈ rdOps o.op, inSc H (x.ev e) ∧ ∀ id ∈ refs1 (x.ev e), id < H.length) → (∃ ps : List (Nat × OP), ids = rowRefs e ps ∧ (∀ p ∈ ps, p.2 ∈ rdOps o.op)) → ∀ id ∈ ids, id < H.length := by
    rintro o ids hsc ⟨ps, rfl, hps⟩ id hid
    obtain ⟨p', hp', hid'⟩ := rowRefs_mem hid
    exact (hsc p'.2 (hps p' hp')).2 id hid'
  by_cases hpf : cls p.op = .fz
  · obtain ⟨I, hI, rfl, hform⟩ := fz_form hpf h1
    have hIlt := fzsc scp hI
    by_cases hqp : cls q.op = .pu
    · obtain ⟨J, X, hX, rfl, hq⟩ := pu_form hφ hqp h2
      refine ⟨frz J H ++ X, hq H (by rw [frz_len]) (fun id g => (rdRow_frz I H id g).symm), ?_⟩
      rw [hform (frz J H ++ X) (fun id g hid => by rw [rdRow_append (by rw [frz_len]; exact hIlt id hid), rdRow_frz])]
      rw [frz_append (by intro id hid; rw [frz_len]; exact hIlt id hid), frz_comm]
    · have hqn : cls q.op = .na := by
        rw [hpf] at hc
        revert hc hq0 hqr hqp
        generalize cls q.op = cq
        cases cq <;> simp [clsOk]
      obtain ⟨tag, T, s, z, i, _, hi, rfl, rfl, hq⟩ := na_form hqn h2
      rw [rsvIdx_frz] at hi
      have hil := lt_of_some (rsvIdx_some hi)
      refine ⟨H.set i (.box T s z), hq H hi, ?_⟩
      rw [hform (H.set i (.box T s z)) (fun id g _ => rdRow_fill (rsvIdx_some hi) id g), frz_set hil rfl]
  by_cases hpp : cls p.op = .pu
  · obtain ⟨J, X, hX, rfl, hpform⟩ := pu_form hφ hpp h1
    by_cases hqf : cls q.op = .fz
    · obtain ⟨I, hI, rfl, hform⟩ := fz_form hqf h2
      have hIlt := fzsc scq hI
      refine ⟨frz I H, hform H (fun id g hid => by rw [rdRow_append (by rw [frz_len]; exact hIlt id hid), rdRow_frz]), ?_⟩
      rw [hpform (frz I H) (frz_len I H) (fun id g => rdRow_frz I H id g), frz_append (by intro id hid; rw [frz_len]; exact hIlt id hid), frz_comm]
    · have hqn : cls q.op = .na := by
        rw [hpp] at hc
        revert hc hq0 hqr hqf
        generalize cls q.op = cq
        cases cq <;> simp [clsOk]
      obtain ⟨tag, T, s, z, i, _, hi, rfl, rfl, hq⟩ := na_form hqn h2
      rw [rsvIdx_append hX, rsvIdx_frz] at hi
      have hil := lt_of_some (rsvIdx_some hi)
      refine ⟨H.set i (.box T s z), hq H hi, ?_⟩
      rw [hpform (H.set i (.box T s z)) (by simp) (fun id g => rdRow_fill (rsvIdx_some hi) id g), frz_set hil rfl, List.set_append_left _ _ (by rw [frz_len]; exact hil)]
  have hpn : cls p.op = .na := by
    revert hc hp0 hpr hpf hpp hq0 hqr
    generalize cls p.op = cp
    generalize cls q.op = cq
    cases cp <;> cases cq <;> simp [clsOk]
  obtain ⟨tag, T, s, z, i, _, hi, rfl, rfl, hpform⟩ := na_form hpn h1
  have hir := rsvIdx_some hi
  have hil := lt_of_some hir
  by_cases hqf : cls q.op = .fz
  · obtain ⟨I, hI, rfl, hform⟩ := fz_form hqf h2
    refine ⟨frz I H, hform H (fun id g _ => (rdRow_fill hir id g).symm), ?_⟩
    rw [hpform (frz I H) (by rw [rsvIdx_frz]; exact hi), frz_set hil rfl]
  · have hqp : cls q.op = .pu := by
      rw [hpn] at hc
      revert hc hq0 hqr hqf
      generalize cls q.op = cq
      cases cq <;> simp [clsOk]
    obtain ⟨J, X, hX, rfl, hq⟩ := pu_form hφ hqp h2
    refine ⟨frz J H ++ X, hq H (by simp) (fun id g => (rdRow_fill hir id g).symm), ?_⟩
    rw [hpform (frz J H ++ X) (by rw [rsvIdx_append hX, rsvIdx_frz]; exact hi), frz_set hil rfl, List.set_append_left _ _ (by rw [frz_len]; exact hil)]
end
end Go.PI
