/- What a function hands back of its frame's rows: each at most once, the rest read as plain values. No condition. -/
import Derived.Test.YtpphfbfmoipoaaaDoorPi12
namespace Go.PI
open Go.RowKit

section
variable {P : Program} {C : Cfg} {im : Md} {B N : Nat} {F F' : Nat → Prop} {H H' : List AO} {ρ ρ' : List Value} {w w' : World} {x y : Value} {e : Env} {a : Act}

structure EI (B : Nat) (F : Nat → Prop) (H : List AO) (ρ : List Value) (w : World) (x : XS) (L : List (Nat × Value)) : Prop where
  len : L.length = x.rows.length
  ids : ∀ id, id ∈ x.E ↔ ∃ v, (id, v) ∈ L
  sep : ∀ id, id ∈ x.U → id ∉ x.E
  nod : ∀ (k k' : Nat) (p p' : Nat × Value), L[k]? = some p → L[k']? = some p' → p.1 = p'.1 → k = k'
  row : ∀ (k : Nat) (p : Nat × Value), L[k]? = some p → ∃ T s es us, x.rows[k]? = some (.row T s 0 es) ∧ w.ownsRow B T s p.2 es.length us ∧ 0 < s ∧ (∀ e ∈ es, e.cells.length = s) ∧ (∀ u ∈ us, u.oneCell' = true) ∧
    (∀ (j : Nat) (c : AV) (u : Value), (flat es)[j]? = some c → us[j]? = some u → IR F w c u) ∧ ∃ T' s' g' es0 v0, H[p.1]? = some (.row T' s' g' es0) ∧ ρ[p.1]? = some v0 ∧ blk p.2 = blk v0

def FF (B : Nat) (F : Nat → Prop) (w : World) (L : List (Nat × Value)) (b : Nat) : Prop := F b ∨ (B ≤ b ∧ b < w.heap.size ∧ ∀ p ∈ L, blk p.2 ≠ some b)

def XE (x : XS) (L : List (Nat × Value)) (x' : XS) (L' : List (Nat × Value)) : Prop :=
  (∃ R, x'.rows = x.rows ++ R) ∧ (∃ L2, L' = L ++ L2) ∧ ∀ id ∈ x.U, id ∈ x'.U

theorem XE.refl (x : XS) (L : List (Nat × Value)) : XE x L x L := ⟨⟨[], by simp⟩, ⟨[], by simp⟩, fun _ h => h⟩
theorem XE.trans {x x' x'' : XS} {L L' L'' : List (Nat × Value)} (h : XE x L x' L') (k : XE x' L' x'' L'') : XE x L x'' L'' := by
  obtain ⟨⟨R, e1⟩, ⟨L2, e2⟩, h3⟩ := h
  obtain ⟨⟨R', e1'⟩, ⟨L2', e2'⟩, h3'⟩ := k
  exact ⟨⟨R ++ R', by rw [e1', e1]; simp⟩, ⟨L2 ++ L2', by rw [e2', e2]; simp⟩, fun id hid => h3' id (h3 id hid)⟩

theorem ff_row (hp : HeapRep B F H ρ w) {xf : XS} {Lf : List (Nat × Value)} (hf : EI B F H ρ w xf Lf) {id T s g : Nat} {es : List AV} {v0 : Value} {b : Nat} (hid : id ∉ xf.E) (hr : H[id]? = some (.row T s g es)) (hv : ρ[id]? = some v0) (hb : blk v0 = some b) : FF B F w Lf b := by
  obtain ⟨h1, h2, h3⟩ := hp.rowBlk hr hv hb
  refine .inr ⟨h1, h2, fun p hpm he => hid ?_⟩
  obtain ⟨k, hk⟩ := List.getElem?_of_mem hpm
  obtain ⟨T1, s1, es1, us1, _, _, _, _, _, _, T2, s2, g2, es2, v2, q1, q2, q3⟩ := hf.row k p hk
  have : id = p.1 := hp.dist id p.1 _ _ v0 v2 b hr q1 rfl rfl hv q2 hb (by rw [← q3]; exact he)
  rw [this]
  exact (hf.ids p.1).2 ⟨p.2, hpm⟩

theorem exp0_ok (hp : HeapRep B F H ρ w) {v : AV} {x : XS} {L : List (Nat × Value)} {u : Value} (hv : VR H ρ F w v u) (hx : EI B F H ρ w x L) :
    ∃ L', EI B F H ρ w (exp0 H v x).2 L' ∧ XE x L (exp0 H v x).2 L' ∧ ∀ xf Lf, EI B F H ρ w xf Lf → XE (exp0 H v x).2 L' xf Lf → CR xf.rows (Lf.map (·.2)) (FF B F w Lf) w (exp0 H v x).1 u := by
  have conv : ∀ xf Lf, EI B F H ρ w xf Lf → (∀ id, id ∈ refs0 v → (∃ T s g es, H[id]? = some (.row T s g es)) → id ∉ xf.E) → CR xf.rows (Lf.map (·.2)) (FF B F w Lf) w (conv0 H v) u := by
    intro xf Lf hf hno
    exact .inl (conv0_ir hp hv (fun b h => .inl h) (fun id T s g es v0 b h1 h2 h3 h4 => ff_row hp hf (hno id h4 ⟨T, s, g, es, h1⟩) h1 h2 h3))
  by_cases href : ∃ id g o n, v = .ref id g o n
  · obtain ⟨id, g, o, n, rfl⟩ := href
    by_cases hE : id ∈ x.E
    · have e1 : exp0 H (.ref id g o n) x = (.top, x) := by simp [exp0, hE]
      rw [e1]
      exact ⟨L, hx, XE.refl _ _, fun _ _ _ _ => .inl (.top _)⟩
    · by_cases hrow : ∃ T s es, H[id]? = some (.row T s g es) ∧ o = 0 ∧ id ∉ x.U
      · obtain ⟨T, s, es, hob, rfl, hU⟩ := hrow
        have e1 : exp0 H (.ref id g 0 n) x = (.ref x.rows.length 0 0 (es.take n).length, { E := id :: x.E, U := x.U, rows := x.rows ++ [.row T s 0 (es.take n)] }) := by
          simp [exp0, hE, hob, hU]
        rw [e1]
        obtain ⟨A, c, rfl, ob, hob', _, hvw⟩ := hv.ref_inv
        have : ob = .row T s g es := by have := hob'.symm.trans hob; simpa using this
        subst this
        obtain ⟨_, hq⟩ := hvw s g es.length rfl
        obtain ⟨hon, v0, hv0, A1, N1, cap1, A2, rfl, hx2, hoN, hpos, hA⟩ := hq rfl
        injection hx2 with p1 _ p3
        have hAA : A = A1 := by rw [p1]; exact hA rfl
        have hcc : c = cap1 := by rw [p3]; rfl
        subst hAA hcc
        obtain ⟨v1, us, R⟩ := hp.row _ _ _ _ _ hob
        have : v1 = .slice A N1 c := by have := R.at_.symm.trans hv0; simpa using this
        subst this
        have hlen : (es.take n).length = n := by rw [List.length_take]; omega
        have hown : w.ownsRow B T s (.slice A n c) (es.take n).length (us.take (n * s)) := by
          refine ⟨by rw [List.length_take, R.own.1, hlen, Nat.min_eq_left (Nat.mul_le_mul_right _ (by omega))], ?_⟩
          rw [hlen]
          rcases R.own.2 with ⟨q1, q2⟩ | ⟨gb, cap, cur, q1, q2, q3, q4, q5, q6, q7⟩
          · injection q1 with q1a q1b q1c
            left
            have : n = 0 := by omega
            subst this
            exact ⟨by rw [q1a, q1c], rfl⟩
          · injection q1 with q1a q1b q1c
            right
            refine ⟨gb, cap, cur, by rw [q1a, q1c], q2, q3, by omega, q5, q6, ?_⟩
            rw [← q7, List.take_take, Nat.min_eq_left (Nat.mul_le_mul_right _ (by omega))]
        refine ⟨L ++ [(id, .slice A n c)], ⟨?_, ?_, ?_, ?_, ?_⟩, ⟨⟨_, rfl⟩, ⟨_, rfl⟩, fun _ h => h⟩, ?_⟩
        · simp [hx.len]
        · intro i
          simp only [List.mem_cons, List.mem_append, List.not_mem_nil, or_false]
          rw [hx.ids]
          constructor
          · rintro (rfl | ⟨vv, hvv⟩)
            · exact ⟨_, .inr rfl⟩
            · exact ⟨vv, .inl hvv⟩
          · rintro ⟨vv, hvv | hvv⟩
            · exact .inr ⟨vv, hvv⟩
            · exact .inl (by injection hvv)
        · intro i hi hm
          rcases List.mem_cons.1 hm with rfl | hm
          · exact hU hi
          · exact hx.sep i hi hm
        · intro k k' p p' hk hk' he
          rw [getElem?_snoc] at hk hk'
          have notin : ∀ (kk : Nat) (pp : Nat × Value), L[kk]? = some pp → pp.1 ≠ id := by
            intro kk pp hpp he2
            exact hE ((hx.ids id).2 ⟨pp.2, by rw [← he2]; exact List.mem_of_getElem? hpp⟩)
          split at hk <;> split at hk'
          · omega
          · injection hk with hk; subst hk; exact absurd he.symm (notin k' p' hk')
          · injection hk' with hk'; subst hk'; exact absurd he (notin k p hk)
          · exact hx.nod k k' p p' hk hk' he
        · intro k p hk
          rw [getElem?_snoc] at hk
          simp only
          rw [getElem?_snoc, ← hx.len]
          split at hk
          · rename_i hkl
            injection hk with hk; subst hk
            rw [if_pos hkl]
            refine ⟨T, s, es.take n, us.take (n * s), rfl, hown, R.pos, fun q hq => R.cells q (List.mem_of_mem_take hq), fun u hu => R.one u (List.mem_of_mem_take hu), fun j cc u hc hu => ?_, T, s, g, es, _, hob, R.at_, by cases A <;> rfl⟩
            have e2 : es.take n = (es.drop 0).take n := by simp
            have e3 : us.take (n * s) = (us.drop (0 * s)).take (n * s) := by simp
            rw [e2, flat_sub R.cells] at hc
            rw [e3] at hu
            exact R.rel _ cc u (getElem?_sub _ _ _ _ hc).2 (getElem?_sub _ _ _ _ hu).2
          · rename_i hkl
            rw [if_neg hkl]
            exact hx.row k p hk
        · intro xf Lf hf hext
          obtain ⟨⟨Rr, e2⟩, ⟨L2, e3⟩, _⟩ := hext
          right
          refine ⟨_, _, _, _, rfl, ?_⟩
          rw [hlen]
          refine .ref _ _ _ _ _ _ ⟨.row T s 0 (es.take n), ?_, rfl, fun s1 g1 N1' hv1 => ?_⟩
          · rw [e2]
            rw [List.getElem?_append_left (by simp), getElem?_snoc, if_pos rfl]
          · simp only [AO.view, Option.some.injEq, Prod.mk.injEq, hlen] at hv1
            obtain ⟨rfl, rfl, rfl⟩ := hv1
            refine ⟨Nat.le_refl _, fun _ => ⟨by omega, .slice A n c, ?_, A, n, c, A, rfl, rfl, by omega, fun hp0 => ?_, fun _ => rfl⟩⟩
            · rw [e3, List.getElem?_map, List.getElem?_append_left (by simp [hx.len]), getElem?_snoc, hx.len, if_pos rfl]; rfl
            · obtain ⟨ad, f1, f2⟩ := hpos hp0
              exact ⟨ad, f1, by rw [f1]; simp [Addr.add_zero']⟩
      · -- not handed back as a row
        have hcase : exp0 H (.ref id g o n) x = (conv0 H (.ref id g o n), x) ∨ exp0 H (.ref id g o n) x = (conv0 H (.ref id g o n), { x with U := id :: x.U }) := by
          simp only [exp0]
          rw [if_neg (by simpa using hE)]
          split
          · rename_i T s g' es hob
            split
            · rename_i hcond
              obtain ⟨rfl, rfl, hU⟩ := hcond
              exact absurd ⟨T, s, es, hob, rfl, by simpa using hU⟩ hrow
            · exact .inr rfl
          · exact .inl rfl
        have hnorow : exp0 H (.ref id g o n) x = (conv0 H (.ref id g o n), x) → (∀ T s g' es, H[id]? ≠ some (.row T s g' es)) ∨ exp0 H (.ref id g o n) x = (conv0 H (.ref id g o n), { x with U := id :: x.U }) := by
          intro _
          by_cases h2 : ∃ T s g' es, H[id]? = some (.row T s g' es)
          · right
            obtain ⟨T, s, g', es, hob⟩ := h2
            simp only [exp0]
            rw [if_neg (by simpa using hE), hob]
            simp only
            rw [if_neg]
            rintro ⟨rfl, rfl, hU⟩
            exact hrow ⟨T, s, es, hob, rfl, by simpa using hU⟩
          · exact .inl (fun T s g' es hh => h2 ⟨T, s, g', es, hh⟩)
        have addU : exp0 H (.ref id g o n) x = (conv0 H (.ref id g o n), { x with U := id :: x.U }) → ∃ L', EI B F H ρ w (exp0 H (.ref id g o n) x).2 L' ∧ XE x L (exp0 H (.ref id g o n) x).2 L' ∧ ∀ xf Lf, EI B F H ρ w xf Lf → XE (exp0 H (.ref id g o n) x).2 L' xf Lf → CR xf.rows (Lf.map (·.2)) (FF B F w Lf) w (exp0 H (.ref id g o n) x).1 u := by
          intro e1
          rw [e1]
          refine ⟨L, ⟨hx.len, hx.ids, ?_, hx.nod, hx.row⟩, ⟨⟨[], by simp⟩, ⟨[], by simp⟩, fun i hi => List.mem_cons_of_mem _ hi⟩, fun xf Lf hf hext => ?_⟩
          · intro i hi hm
            rcases List.mem_cons.1 hi with rfl | hi
            · exact hE hm
            · exact hx.sep i hi hm
          · refine conv xf Lf hf (fun i hi _ => ?_)
            simp [refs0] at hi; subst hi
            exact hf.sep i (hext.2.2 i (List.mem_cons_self ..))
        rcases hcase with e1 | e1
        · rcases hnorow e1 with hno | e2
          · rw [e1]
            refine ⟨L, hx, XE.refl _ _, fun xf Lf hf _ => conv xf Lf hf (fun i hi hr => ?_)⟩
            simp [refs0] at hi; subst hi
            obtain ⟨T, s, g', es, hh⟩ := hr
            exact absurd hh (hno T s g' es)
          · exact addU e2
        · exact addU e1
  · have e1 : exp0 H v x = (conv0 H v, x) := by cases v <;> first | rfl | exact absurd ⟨_, _, _, _, rfl⟩ href
    rw [e1]
    refine ⟨L, hx, XE.refl _ _, fun xf Lf hf _ => conv xf Lf hf (fun i hi _ => ?_)⟩
    have : refs0 v = [] := by cases v <;> first | rfl | exact absurd ⟨_, _, _, _, rfl⟩ href
    rw [this] at hi; cases hi

theorem expL_ok (hp : HeapRep B F H ρ w) : ∀ (vs : List AV) (us : List Value) (x : XS) (L : List (Nat × Value)), vs.length = us.length → (∀ (j : Nat) (c : AV) (u : Value), vs[j]? = some c → us[j]? = some u → VR H ρ F w c u) → EI B F H ρ w x L →
    ∃ L', EI B F H ρ w (expL H vs x).2 L' ∧ XE x L (expL H vs x).2 L' ∧ (expL H vs x).1.length = vs.length ∧ ∀ xf Lf, EI B F H ρ w xf Lf → XE (expL H vs x).2 L' xf Lf →
      ∀ (j : Nat) (c : AV) (u : Value), (expL H vs x).1[j]? = some c → us[j]? = some u → CR xf.rows (Lf.map (·.2)) (FF B F w Lf) w c u
  | [], us, x, L, _, _, hx => ⟨L, hx, XE.refl _ _, rfl, fun _ _ _ _ j c u hc => by simp [expL] at hc⟩
  | v :: r, [], x, L, hl, _, _ => by simp at hl
  | v :: r, u :: us, x, L, hl, hr, hx => by
    obtain ⟨L1, h1, h2, h3⟩ := exp0_ok hp (hr 0 v u rfl rfl) hx
    obtain ⟨L2, g1, g2, g3, g4⟩ := expL_ok hp r us (exp0 H v x).2 L1 (by simpa using hl) (fun j c u hc hu => hr (j + 1) c u (by simpa using hc) (by simpa using hu)) h1
    refine ⟨L2, g1, h2.trans g2, by simp [expL, g3], fun xf Lf hf hext j c u' hc hu => ?_⟩
    simp only [expL] at hc hext
    cases j with
    | zero => simp at hc hu; subst hc hu; exact h3 xf Lf hf (g2.trans hext)
    | succ j => simp only [List.getElem?_cons_succ] at hc hu; exact g4 xf Lf hf hext j c u' hc hu

theorem exp1_ok (hp : HeapRep B F H ρ w) {v : AV} {x : XS} {L : List (Nat × Value)} {u : Value} (hv : VR H ρ F w v u) (hx : EI B F H ρ w x L) :
    ∃ L', EI B F H ρ w (exp1 H v x).2 L' ∧ XE x L (exp1 H v x).2 L' ∧ ∀ xf Lf, EI B F H ρ w xf Lf → XE (exp1 H v x).2 L' xf Lf → RR1 xf.rows (Lf.map (·.2)) (FF B F w Lf) w (exp1 H v x).1 u := by
  by_cases ha : ∃ cs, v = .agg cs
  · obtain ⟨cs, rfl⟩ := ha
    obtain ⟨us, rfl, hl, h1, hr⟩ := hv.agg_inv
    obtain ⟨L', g1, g2, g3, g4⟩ := expL_ok hp cs us x L hl hr hx
    exact ⟨L', g1, g2, fun xf Lf hf hext => .inr ⟨_, us, rfl, rfl, by rw [g3]; exact hl, h1, g4 xf Lf hf hext⟩⟩
  · have e1 : exp1 H v x = exp0 H v x := by cases v <;> first | rfl | exact absurd ⟨_, rfl⟩ ha
    rw [e1]
    obtain ⟨L', g1, g2, g3⟩ := exp0_ok hp hv hx
    exact ⟨L', g1, g2, fun xf Lf hf hext => .inl (g3 xf Lf hf hext)⟩

theorem expV_ok (hp : HeapRep B F H ρ w) : ∀ (vs : List AV) (us : List Value) (x : XS) (L : List (Nat × Value)), vs.length = us.length → (∀ (j : Nat) (c : AV) (u : Value), vs[j]? = some c → us[j]? = some u → VR H ρ F w c u) → EI B F H ρ w x L →
    ∃ L', EI B F H ρ w (expV H vs x).2 L' ∧ XE x L (expV H vs x).2 L' ∧ (expV H vs x).1.length = vs.length ∧ ∀ xf Lf, EI B F H ρ w xf Lf → XE (expV H vs x).2 L' xf Lf →
      ∀ (j : Nat) (c : AV) (u : Value), (expV H vs x).1[j]? = some c → us[j]? = some u → RR1 xf.rows (Lf.map (·.2)) (FF B F w Lf) w c u
  | [], us, x, L, _, _, hx => ⟨L, hx, XE.refl _ _, rfl, fun _ _ _ _ j c u hc => by simp [expV] at hc⟩
  | v :: r, [], x, L, hl, _, _ => by simp at hl
  | v :: r, u :: us, x, L, hl, hr, hx => by
    obtain ⟨L1, h1, h2, h3⟩ := exp1_ok hp (hr 0 v u rfl rfl) hx
    obtain ⟨L2, g1, g2, g3, g4⟩ := expV_ok hp r us (exp1 H v x).2 L1 (by simpa using hl) (fun j c u hc hu => hr (j + 1) c u (by simpa using hc) (by simpa using hu)) h1
    refine ⟨L2, g1, h2.trans g2, by simp [expV, g3], fun xf Lf hf hext j c u' hc hu => ?_⟩
    simp only [expV] at hc hext
    cases j with
    | zero => simp at hc hu; subst hc hu; exact h3 xf Lf hf (g2.trans hext)
    | succ j => simp only [List.getElem?_cons_succ] at hc hu; exact g4 xf Lf hf hext j c u' hc hu

/-- The rows that are handed back. -/
theorem EI.heap (hp : HeapRep B F H ρ w) {x : XS} {L : List (Nat × Value)} (h : EI B F H ρ w x L) : HeapRep B (FF B F w L) x.rows (L.map (·.2)) w ∧ ∀ o ∈ x.rows, o.isRow = true := by
  have get : ∀ k o, x.rows[k]? = some o → ∃ p, L[k]? = some p := fun k o hk => getElem?_of_len h.len.symm hk
  have isrow : ∀ (k : Nat) (o : AO), x.rows[k]? = some o → ∃ T s es, o = .row T s 0 es := by
    intro k o hk
    obtain ⟨p, hpk⟩ := get k o hk
    obtain ⟨T, s, es, us, h1, _⟩ := h.row k p hpk
    rw [h1] at hk; injection hk with hk
    exact ⟨T, s, es, hk.symm⟩
  refine ⟨⟨by simp [h.len], hp.base, ?_, ?_, ?_, ?_, ?_, ?_, ?_⟩, ?_⟩
  · rintro b (hb | hb)
    · exact hp.fb b hb
    · exact hb.2.1
  · intro id T s g es hr
    obtain ⟨p, hpk⟩ := get id _ hr
    obtain ⟨T1, s1, es1, us, h1, h2, h3, h4, h5, h6, T', s', g', es0, v0, q1, q2, q3⟩ := h.row id p hpk
    rw [h1] at hr; injection hr with hr; injection hr with e1 e2 e3 e4; subst e1 e2 e3 e4
    refine ⟨p.2, us, by simp [hpk], h2, h3, h4, h5, fun j c u hc hu => (h6 j c u hc hu).mono (fun b hb => .inl hb) (fun _ _ => rfl), fun b hb hF => ?_⟩
    rcases hF with hF | hF
    · exact (hp.rowBlk q1 q2 (by rw [← q3]; exact hb)).2.2 hF
    · exact hF.2.2 p (List.mem_of_getElem? hpk) hb
  · intro id T s el hr
    obtain ⟨_, _, _, h1⟩ := isrow id _ hr
    cases h1
  · intro id s g es hr
    obtain ⟨_, _, _, h1⟩ := isrow id _ hr
    cases h1
  · intro id d hr
    obtain ⟨_, _, _, h1⟩ := isrow id _ hr
    cases h1
  · intro id T s g es hr
    obtain ⟨_, _, _, h1⟩ := isrow id _ hr
    cases h1
  · intro id id' o o' v v' b h1 h2 o1 o2 r1 r2 b1 b2
    obtain ⟨p, hpk⟩ := get id _ h1
    obtain ⟨p', hpk'⟩ := get id' _ h2
    simp [hpk] at r1; subst r1
    simp [hpk'] at r2; subst r2
    obtain ⟨_, _, _, _, _, _, _, _, _, _, T1, s1, g1, es1, v1, q1, q2, q3⟩ := h.row id p hpk
    obtain ⟨_, _, _, _, _, _, _, _, _, _, T2, s2, g2, es2, v2, q1', q2', q3'⟩ := h.row id' p' hpk'
    have := hp.dist p.1 p'.1 _ _ v1 v2 b q1 q1' rfl rfl q2 q2' (by rw [← q3]; exact b1) (by rw [← q3']; exact b2)
    exact h.nod id id' p p' hpk hpk' this
  · intro o ho
    obtain ⟨k, hk⟩ := List.getElem?_of_mem ho
    obtain ⟨_, _, _, h1⟩ := isrow k o hk
    subst h1; rfl

theorem EI.nil : EI B F H ρ w { E := [], U := [], rows := [] } [] :=
  ⟨rfl, (fun id => by simp), (fun id h => by cases h), (fun k k' p p' h => by simp at h), (fun k p h => by simp at h)⟩

end
end Go.PI
