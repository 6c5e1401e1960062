/- Each operation but a call: what the interpreter says of it is what the model does. No condition. -/
import Derived.Test.YtpphfbfmoipoaaaDoorPi5
import Derived.Laws.StructEq
import Derived.Laws.Small
namespace Go.PI
open Go.RowKit

section
variable {P : Program} {C : Cfg} {im : Md} {B N : Nat} {F F' : Nat → Prop} {H H' : List AO} {ρ ρ' : List Value} {w w' : World} {x : Value} {e : Env} {a : Act}

/-- what the package variables hold -/
def Glob (C : Cfg) (F : Nat → Prop) (w : World) : Prop := ∀ g e, C.G g = some e → IR F w (.cptr e 0) (.pointer (some ⟨g, 0, none⟩)) ∧ F g ∧ ∃ cs t z, w.heap[g]? = some (.cells cs t z) ∧ cs.size = e.cells.length

theorem Glob.mono (h : Glob C F w) (hF : ∀ b, F b → F' b) (hw : ∀ b, F b → w'.heap[b]? = w.heap[b]?) : Glob C F' w' := fun g e hg => ⟨(h g e hg).1.mono hF hw, hF _ (h g e hg).2.1, by rw [hw g (h g e hg).2.1]; exact (h g e hg).2.2⟩

structure Sim (C : Cfg) (B : Nat) (F : Nat → Prop) (H : List AO) (ρ : List Value) (N : Nat) (e : Env) (a : Act) (w : World) : Prop where
  hp : HeapRep B F H ρ w
  defers : a.defers = []
  size : a.tmps.size = N
  env : ∀ i, VR H ρ F w (e.get i) (a.tmps.getD i undef)
  glob : Glob C F w

def Yields (P : Program) (o : Oper) (a : Act) (w : World) (v : Value) (w' : World) : Prop :=
  (execOp a.eval o).run P w = .ok (.value v) w' ∨ ((execOp a.eval o).run P w = .ok .skip w' ∧ v = undef)

structure Post (B : Nat) (F : Nat → Prop) (H : List AO) (ρ : List Value) (w : World) (d : AV) (H' : List AO) (v : Value) (w' : World) (ρ' : List Value) (F' : Nat → Prop) : Prop where
  hp : HeapRep B F' H' ρ' w'
  val : VR H' ρ' F' w' d v
  ev : Ev H ρ H' ρ'
  kept : Kept B F w w'
  sub : ∀ b, F b → F' b
  bnd : ∀ b, F' b → F b ∨ B ≤ b

theorem Post.quiet (hp : HeapRep B F H ρ w) {d : AV} {v : Value} (h : VR H ρ F w d v) : Post B F H ρ w d H v w ρ F :=
  ⟨hp, h, Ev.refl _ _, Kept.refl _ _ _, fun _ x => x, fun _ x => .inl x⟩

/- constants, operands -/
theorem cst0_ir {v : Value} {c : AV} (h : cstV0 v = some c) : IR F w c v ∧ v.oneCell' = true ∧ scal c = true := by
  unfold cstV0 at h
  split at h
  · cases h; exact ⟨.bool _, rfl, rfl⟩
  · cases h; exact ⟨.int _ _, rfl, rfl⟩
  · cases h; exact ⟨.str _, rfl, rfl⟩
  · cases h; exact ⟨.nilp, rfl, rfl⟩
  · cases h; exact ⟨.e0 _, rfl, rfl⟩
  · cases h

theorem cstL_ir : ∀ {vs : List Value} {cs : List AV}, cstL vs = some cs → cs.length = vs.length ∧ (∀ u ∈ vs, u.oneCell' = true) ∧
    ∀ (j : Nat) (c : AV) (u : Value), cs[j]? = some c → vs[j]? = some u → IR F w c u
  | [], cs, h => by simp [cstL] at h; subst h; exact ⟨rfl, by simp, fun j c u hc => by simp at hc⟩
  | v :: r, cs, h => by
    simp only [cstL] at h
    cases hv : cstV0 v with
    | none => rw [hv] at h; cases h
    | some c0 =>
      rw [hv] at h
      simp only [Option.bind_some] at h
      cases hr : cstL r with
      | none => rw [hr] at h; cases h
      | some l =>
        rw [hr] at h
        simp at h; subst h
        obtain ⟨h1, h2, h3⟩ := cstL_ir hr
        obtain ⟨g1, g2, _⟩ := cst0_ir (F := F) (w := w) hv
        refine ⟨by simp [h1], ?_, ?_⟩
        · intro u hu
          rcases List.mem_cons.1 hu with rfl | hu
          · exact g2
          · exact h2 u hu
        · intro j c u hc hu
          cases j with
          | zero => simp at hc hu; subst hc hu; exact g1
          | succ j => simp at hc hu; exact h3 j c u hc hu

theorem cstV_ir {v : Value} {c : AV} (h : cstV v = some c) : IR F w c v ∧ (okCells c = true ∨ c = .tup []) := by
  unfold cstV at h
  split at h
  · rename_i cs
    cases hl : cstL cs.toList with
    | none => rw [hl] at h; cases h
    | some l =>
      rw [hl] at h; simp at h; subst h
      obtain ⟨h1, h2, h3⟩ := cstL_ir (F := F) (w := w) hl
      have := IR.agg (F := F) (w := w) l cs.toList h1 h2 h3
      exact ⟨by simpa using this, .inl rfl⟩
  · injection h with h; subst h; exact ⟨.tup [] [] rfl (fun j c u hc => by simp at hc), .inr rfl⟩
  · obtain ⟨h1, _, h3⟩ := cst0_ir (F := F) (w := w) h
    refine ⟨h1, .inl ?_⟩
    cases c <;> first | exact h3 | rfl

theorem opd_ok (hs : Sim C B F H ρ N e a w) {x : Operand} {y : OP} (h : cOpd C x = some y) : VR H ρ F w (y.ev e) (a.eval x) := by
  cases x with
  | tmp t => simp [cOpd] at h; subst h; exact hs.env t
  | const v =>
    simp only [cOpd] at h
    cases hv : cstV v with
    | none => rw [hv] at h; cases h
    | some c => rw [hv] at h; simp at h; subst h; exact .imm (cstV_ir hv).1
  | global g =>
    simp only [cOpd] at h
    obtain ⟨el, hg, rfl⟩ := Option.map_eq_some_iff.1 h
    exact .imm (hs.glob g el hg).1
  | func f => simp [cOpd] at h; subst h; exact .imm (.fn f [] [] rfl (fun j c u hc => by simp at hc))

/- reading through a pointer -/
theorem pelem_ok (hp : HeapRep B F H ρ w) {p : AV} {el : AV} {o : Nat} (h : VR H ρ F w p x) (hpe : pelem H p = some (el, o)) :
    ∃ (ad : Addr) (us : List Value), x = .pointer (some ad) ∧ el.cells.length = us.length ∧ (∀ u ∈ us, u.oneCell' = true) ∧
      (∀ (j : Nat) (u : Value), us[o + j]? = some u → w.cell? (ad.add j) = some u) ∧ ∀ (j : Nat) (c : AV) (u : Value), el.cells[j]? = some c → us[j]? = some u → VR H ρ F w c u := by
  cases p with
  | cptr el0 o0 =>
    simp [pelem] at hpe; obtain ⟨rfl, rfl⟩ := hpe
    cases h.cptr_inv with
    | cptr _ _ ad us hF hl h1 hm hr =>
      exact ⟨_, us, rfl, hl, h1, fun j u hu => by rw [add_add']; exact hm _ u hu, fun j c u hc hu => .imm (hr j c u hc hu)⟩
  | bptr id o0 =>
    obtain ⟨ad, rfl, ob, hob, hrs, hv⟩ := h.bptr_inv
    simp only [pelem, hob] at hpe
    cases ob with
    | box T s el0 =>
      simp at hpe; obtain ⟨rfl, rfl⟩ := hpe
      obtain ⟨b, us, R⟩ := hp.box _ _ _ _ hob
      obtain ⟨b', hb1, hb2⟩ := hv s 0 1 rfl rfl
      have : b' = b := by have := hb1.symm.trans R.at_; simpa using this
      subst this
      injection hb2 with hb2; injection hb2 with hb2; subst hb2
      refine ⟨_, us, rfl, by rw [R.cells, R.len], R.one, fun j u hu => ?_, R.rel⟩
      rw [Addr.add_lit, cell_of_row w b' _ us.toArray T (0, 0) R.own]
      simpa using hu
    | row => cases hpe
    | fz => cases hpe
    | rr => cases hpe
    | obj => cases hpe
    | rsv => cases hpe
    | gone => cases hpe
  | rptr id g i o0 =>
    obtain ⟨ad, rfl, ob, hob, hrs, hv⟩ := h.rptr_inv
    simp only [pelem] at hpe
    cases hrd : rdRow H id g with
    | none => rw [hrd] at hpe; cases hpe
    | some r =>
      obtain ⟨s, es⟩ := r
      rw [hrd] at hpe
      simp only [Option.bind_some] at hpe
      cases hi : es[i]? with
      | none => rw [hi] at hpe; cases hpe
      | some el0 =>
        rw [hi] at hpe; simp at hpe; obtain ⟨rfl, rfl⟩ := hpe
        have main : ∃ v0, ρ[id]? = some v0 ∧ PtrTo v0 s i o0 (.pointer (some ad)) := by
          rcases rdRow_some hrd with ⟨T, h1⟩ | h1 <;> rw [h1] at hob <;> injection hob with hob <;> subst hob <;> exact ((hv s g es.length rfl).2 rfl).2
        obtain ⟨v0, hv0, ad0, Nn, cap, rfl, hiN, hx⟩ := main
        injection hx with hx; injection hx with hx; subst hx
        have hmem := List.mem_of_getElem? hi
        have cut : ∀ (us : List Value), (∀ e ∈ es, e.cells.length = s) → us.length = es.length * s → ((us.drop (i * s)).take s).length = s := by
          intro us hcl hl
          rw [List.length_take, List.length_drop, hl, Nat.min_eq_left]
          have := Nat.mul_le_mul_right s (Nat.succ_le_of_lt (lt_of_some hi))
          rw [Nat.succ_mul] at this; omega
        rcases rdRow_some hrd with ⟨T, h1⟩ | h1
        · obtain ⟨v1, us, R⟩ := hp.row _ _ _ _ _ h1
          have : v1 = .slice (some ad0) Nn cap := by have := R.at_.symm.trans hv0; simpa using this
          subst this
          obtain ⟨b, rfl⟩ : ∃ b, ad0 = ⟨b, 0, none⟩ := by
            rcases R.own.2 with ⟨hnil, _⟩ | ⟨gb, cap', cur, hvv, _⟩
            · cases hnil
            · injection hvv with q1; injection q1 with q1; exact ⟨gb, q1⟩
          refine ⟨_, (us.drop (i * s)).take s, rfl, by rw [R.cells _ hmem, cut us R.cells R.own.1], fun u hu => R.one u (mem_of_sub hu), fun j u hu => ?_, fun j c u hc hu => ?_⟩
          · have := R.own.cells (g := b) rfl _ u (getElem?_sub _ _ _ _ hu).2
            rw [add_add']
            rw [← this]; congr 2; omega
          · obtain ⟨hj, hu'⟩ := getElem?_sub _ _ _ _ hu
            exact .imm (R.rel _ c u (by rw [flat_get R.cells hi hj]; exact hc) hu')
        · obtain ⟨v1, hv1, hI⟩ := hp.fz _ _ _ _ h1
          have : v1 = .slice (some ad0) Nn cap := by have := hv1.symm.trans hv0; simpa using this
          subst this
          generalize hxx : Value.slice (some ad0) Nn cap = xx at hI
          cases hI with
          | sl _ _ a0 cap0 us hc hcm hcl hl h1' hm hr =>
            injection hxx with q1 q2 q3
            obtain ⟨ad', e1, _, e3⟩ := hm (by intro e; subst e; simp at hi)
            rw [← q1] at e1; injection e1 with e1; subst e1
            refine ⟨_, (us.drop (i * s)).take s, rfl, by rw [hcl _ hmem, cut us hcl (by rw [← hl, flat_len hcl])], fun u hu => h1' u (mem_of_sub hu), fun j u hu => ?_, fun j c u hc hu => ?_⟩
            · have := e3 _ u (getElem?_sub _ _ _ _ hu).2
              rw [add_add']
              rw [← this]; congr 2; omega
            · obtain ⟨hj, hu'⟩ := getElem?_sub _ _ _ _ hu
              exact .imm (hr _ c u (by rw [flat_get hcl hi hj]; exact hc) hu')
  | _ => cases hpe

theorem getElem?_of_len {α β : Type} {l : List α} {m : List β} (h : l.length = m.length) {i : Nat} {x : α} (hx : l[i]? = some x) : ∃ y, m[i]? = some y := by
  have := lt_of_some hx
  exact ⟨m[i]'(by omega), List.getElem?_eq_getElem (by omega)⟩

/-- A part of a struct's cells. -/
theorem part_ok {ag : Bool} {o n : Nat} {cs : List AV} {us : List Value} {d : AV} (hl : cs.length = us.length) (h1 : ∀ u ∈ us, u.oneCell' = true)
    (hr : ∀ (j : Nat) (c : AV) (u : Value), cs[j]? = some c → us[j]? = some u → VR H ρ F w c u) (h : part ag o n cs = some d) :
    if ag then ((us.drop o).take n).length = n ∧ VR H ρ F w d (.agg ((us.drop o).take n).toArray) else ∃ u, us[o]? = some u ∧ VR H ρ F w d u := by
  unfold part at h
  cases ag with
  | true =>
    simp only [if_true] at h ⊢
    split at h
    · rename_i hon
      injection h with h; subst h
      refine ⟨by rw [List.length_take, List.length_drop]; omega, .agg _ _ (by simp [hl]) (fun u hu => h1 u (mem_of_sub hu)) (fun j c u hc hu => hr _ c u (getElem?_sub _ _ _ _ hc).2 (getElem?_sub _ _ _ _ hu).2)⟩
    · cases h
  | false =>
    simp only [Bool.false_eq_true, if_false] at h ⊢
    obtain ⟨u, hu⟩ := getElem?_of_len hl h
    exact ⟨u, hu, hr o d u h hu⟩

theorem tySize_spec {t : TypeId} {s : Nat × Bool} (h : tySize P t = some s) : ∃ i d, P.info? t = some i ∧ P.underlying t = some d ∧ i.size = s.1 ∧ aggD d = s.2 := by
  unfold tySize at h
  cases hi : P.info? t with
  | none => rw [hi] at h; cases h
  | some i =>
    rw [hi] at h
    simp only [Option.bind_some] at h
    cases hd : P.underlying t with
    | none => rw [hd] at h; cases h
    | some d => rw [hd] at h; simp at h; subst h; exact ⟨i, d, rfl, rfl, rfl, rfl⟩

theorem run_isAgg {t : TypeId} {d : TypeDesc} (h : P.underlying t = some d) (w : World) : (isAgg t).run P w = .ok (aggD d) w := by
  unfold isAgg
  simp only [Sem.run_bind, run_underlying h, Result.andThen_ok]
  cases d <;> rfl

theorem load_ok (hp : HeapRep B F H ρ w) {t : TypeId} {s : Nat × Bool} (ht : tySize P t = some s) {p d : AV} (h : VR H ρ F w p x) (hl : aload s.2 s.1 H p = some d) :
    ∃ v, (Instr.loadAt t x).run P w = .ok v w ∧ VR H ρ F w d v := by
  unfold aload at hl
  cases hpe : pelem H p with
  | none => rw [hpe] at hl; cases hl
  | some r =>
    obtain ⟨el, o⟩ := r
    rw [hpe] at hl
    simp only [Option.bind_some] at hl
    obtain ⟨ad, us, rfl, h1, h2, h3, h4⟩ := pelem_ok hp h hpe
    obtain ⟨i, dd, hi, hd, hsz, hag⟩ := tySize_spec ht
    have hpart := part_ok h1 h2 h4 hl
    obtain ⟨sz, ag⟩ := s
    simp only at hsz hag hpart hl
    have hrun : (Instr.loadAt t (.pointer (some ad))).run P w = (loadVar t ad).run P w := by simp [Instr.loadAt, Instr.sureAddr]
    rw [hrun]
    unfold loadVar
    simp only [Sem.run_bind, run_isAgg hd, Result.andThen_ok, hag]
    cases ag with
    | true =>
      simp only [if_true] at hpart
      obtain ⟨hlen, hv⟩ := hpart
      refine ⟨_, ?_, hv⟩
      have hc := run_loadCells_list (P := P) w ad ((us.drop o).take sz) (fun j v hv => h3 j v (getElem?_sub _ _ _ _ hv).2)
      rw [hlen] at hc
      simp [sizeOf, typeInfo, hi, hsz, hc]
    | false =>
      simp only [Bool.false_eq_true, if_false] at hpart
      obtain ⟨u, hu, hv⟩ := hpart
      refine ⟨u, ?_, hv⟩
      have hc := h3 0 u (by simpa using hu)
      rw [Addr.add_zero'] at hc
      simp [hc]

end
end Go.PI
