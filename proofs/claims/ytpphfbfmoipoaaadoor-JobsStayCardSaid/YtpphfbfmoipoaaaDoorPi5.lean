/- What the relation gives for each form of a value; frozen rows; a part of a slice; reading a cell. No condition. -/
import Derived.Test.YtpphfbfmoipoaaaDoorPi4
import Derived.Maps.AppendAt
namespace Go.PI
open Go.RowKit

section
variable {B : Nat} {F F' : Nat → Prop} {H H' : List AO} {ρ ρ' : List Value} {w w' : World} {x : Value}

theorem VR.bool_inv {b : Bool} (h : VR H ρ F w (.bool b) x) : x = .bool b := by cases h with | imm h => cases h; rfl
theorem VR.int_inv {k : IntKind} {n : Int} (h : VR H ρ F w (.int k n) x) : x = .int k n := by cases h with | imm h => cases h; rfl
theorem VR.str_inv {l : List UInt8} (h : VR H ρ F w (.str l) x) : x = .string ⟨l.toArray⟩ := by cases h with | imm h => cases h; rfl
theorem VR.e0_inv (h : VR H ρ F w .e0 x) : ∃ a, x = .slice a 0 0 := by cases h with | imm h => cases h; exact ⟨_, rfl⟩
theorem VR.sl_inv {s : Nat} {es : List AV} (h : VR H ρ F w (.sl s es) x) : IR F w (.sl s es) x := by cases h with | imm h => exact h
theorem VR.cptr_inv {e : AV} {o : Nat} (h : VR H ρ F w (.cptr e o) x) : IR F w (.cptr e o) x := by cases h with | imm h => exact h
theorem VR.ref_inv {id g o n : Nat} (h : VR H ρ F w (.ref id g o n) x) : ∃ A c, x = .slice A n c ∧ RefOk H ρ id g o n x := by
  cases h with
  | imm h => cases h
  | ref _ _ _ _ A c h => exact ⟨A, c, rfl, h⟩
theorem VR.rptr_inv {id g i o : Nat} (h : VR H ρ F w (.rptr id g i o) x) : ∃ ad, x = .pointer (some ad) ∧ PtrOk H ρ id g i o x := by
  cases h with
  | imm h => cases h
  | rptr _ _ _ _ ad h => exact ⟨ad, rfl, h⟩
theorem VR.bptr_inv {id o : Nat} (h : VR H ρ F w (.bptr id o) x) : ∃ ad, x = .pointer (some ad) ∧ BoxOk H ρ id o x := by
  cases h with
  | imm h => cases h
  | bptr _ _ ad h => exact ⟨ad, rfl, h⟩
theorem VR.agg_inv {cs : List AV} (h : VR H ρ F w (.agg cs) x) : ∃ us : List Value, x = .agg us.toArray ∧ cs.length = us.length ∧ (∀ u ∈ us, u.oneCell' = true) ∧
    ∀ (j : Nat) (c : AV) (u : Value), cs[j]? = some c → us[j]? = some u → VR H ρ F w c u := by
  cases h with
  | imm h => cases h with | agg _ us hl h1 hr => exact ⟨us, rfl, hl, h1, fun j c u hc hu => .imm (hr j c u hc hu)⟩
  | agg _ us hl h1 hr => exact ⟨us, rfl, hl, h1, hr⟩
theorem VR.tup_inv {cs : List AV} (h : VR H ρ F w (.tup cs) x) : ∃ us : List Value, x = .tuple us.toArray ∧ cs.length = us.length ∧
    ∀ (j : Nat) (c : AV) (u : Value), cs[j]? = some c → us[j]? = some u → VR H ρ F w c u := by
  cases h with
  | imm h => cases h with | tup _ us hl hr => exact ⟨us, rfl, hl, fun j c u hc hu => .imm (hr j c u hc hu)⟩
  | tup _ us hl hr => exact ⟨us, rfl, hl, hr⟩
theorem VR.fn_inv {f : Nat} {cs : List AV} (h : VR H ρ F w (.fn f cs) x) : ∃ us : List Value, x = .func (.func f) #[] us.toArray ∧ cs.length = us.length ∧
    ∀ (j : Nat) (c : AV) (u : Value), cs[j]? = some c → us[j]? = some u → VR H ρ F w c u := by
  cases h with
  | imm h => cases h with | fn _ _ us hl hr => exact ⟨us, rfl, hl, fun j c u hc hu => .imm (hr j c u hc hu)⟩
  | fn _ _ us hl hr => exact ⟨us, rfl, hl, hr⟩

theorem VR.tup0 : VR H ρ F w (.tup []) undef := .imm (.tup [] [] rfl (fun j c u hc _ => by simp at hc))

/-- A value that may lie in one cell does. -/
theorem VR.one {v : AV} (h : VR H ρ F w v x) (hs : scal v = true) : x.oneCell' = true := by
  cases h with
  | imm h => cases h <;> first | rfl | simp [scal] at hs
  | agg => simp [scal] at hs
  | tup => simp [scal] at hs
  | itr _ _ h1 _ => exact h1
  | _ => rfl

theorem VR.cells {v : AV} (h : VR H ρ F w v x) (hs : okCells v = true) : ∃ us : List Value, x.cells = us.toArray ∧ v.cells.length = us.length ∧ (∀ u ∈ us, u.oneCell' = true) ∧
    ∀ (j : Nat) (c : AV) (u : Value), v.cells[j]? = some c → us[j]? = some u → VR H ρ F w c u := by
  by_cases ha : ∃ cs, v = .agg cs
  · obtain ⟨cs, rfl⟩ := ha
    obtain ⟨us, rfl, h1, h2, h3⟩ := h.agg_inv
    exact ⟨us, rfl, h1, h2, h3⟩
  · have hsc : scal v = true := by cases v <;> first | exact hs | (exact absurd ⟨_, rfl⟩ ha)
    have ho := h.one hsc
    have hv : v.cells = [v] := by cases v <;> first | rfl | (exact absurd ⟨_, rfl⟩ ha)
    have hx : x.cells = #[x] := by cases x <;> first | rfl | simp [Value.oneCell'] at ho
    refine ⟨[x], by rw [hx], by rw [hv]; rfl, by simpa using ho, fun j c u hc hu => ?_⟩
    rw [hv] at hc
    cases j with
    | zero => simp at hc hu; subst hc hu; exact h
    | succ j => simp at hc

theorem flat_append (a b : List AV) : flat (a ++ b) = flat a ++ flat b := by simp [flat]

theorem flat_sub {s : Nat} {es : List AV} (h : ∀ e ∈ es, e.cells.length = s) (o n : Nat) : flat ((es.drop o).take n) = ((flat es).drop (o * s)).take (n * s) := by
  have hd : flat (es.drop o) = (flat es).drop (o * s) := by
    rcases Nat.lt_or_ge o es.length with ho | ho
    · have e1 : es = es.take o ++ es.drop o := (List.take_append_drop o es).symm
      have hl : (flat (es.take o)).length = o * s := by
        rw [flat_len (fun e he => h e (List.mem_of_mem_take he)), List.length_take, Nat.min_eq_left (by omega)]
      conv => rhs; rw [e1, flat_append, ← hl]
      simp
    · rw [List.drop_eq_nil_of_le ho, List.drop_eq_nil_of_le (by rw [flat_len h]; exact Nat.mul_le_mul_right _ ho)]; rfl
  rw [← hd]
  have h' : ∀ e ∈ es.drop o, e.cells.length = s := fun e he => h e (List.mem_of_mem_drop he)
  generalize es.drop o = l at h'
  rcases Nat.lt_or_ge n l.length with hn | hn
  · have e1 : l = l.take n ++ l.drop n := (List.take_append_drop n l).symm
    have hl : (flat (l.take n)).length = n * s := by
      rw [flat_len (fun e he => h' e (List.mem_of_mem_take he)), List.length_take, Nat.min_eq_left (by omega)]
    conv => rhs; rw [e1, flat_append, ← hl]
    simp
  · rw [List.take_of_length_le hn, List.take_of_length_le (by rw [flat_len h']; exact Nat.mul_le_mul_right _ hn)]

theorem mem_of_sub {α : Type} {l : List α} {o n : Nat} {x : α} (h : x ∈ (l.drop o).take n) : x ∈ l := List.mem_of_mem_drop (List.mem_of_mem_take h)

theorem getElem?_sub {α : Type} (l : List α) (o n j : Nat) {x : α} (h : ((l.drop o).take n)[j]? = some x) : j < n ∧ l[o + j]? = some x := by
  rw [List.getElem?_take] at h
  split at h
  · rename_i hj; exact ⟨hj, by rwa [List.getElem?_drop] at h⟩
  · cases h

/-- A part of a slice. -/
theorem IR.sub {s : Nat} {es : List AV} {v : Value} {o n : Nat} (h : IR F w (.sl s es) v) (hs : SubSlice v s o n x) : IR F w (.sl s ((es.drop o).take n)) x := by
  cases h with
  | sl _ _ a cap us hc hcm hcl hl h1 hm hr =>
    obtain ⟨A, N, cap', A', hv, rfl, hon, hn, h0⟩ := hs
    injection hv with e1 e2 e3
    subst e1 e2 e3
    have hlen : ((es.drop o).take n).length = n := by rw [List.length_take, List.length_drop]; omega
    have key := IR.sl (F := F) (w := w) s ((es.drop o).take n) A' (cap - o) ((us.drop (o * s)).take (n * s)) (by rw [hlen]; omega) (by omega) (fun e he => hcl e (mem_of_sub he))
      (by rw [flat_sub hcl, List.length_take, List.length_take, List.length_drop, List.length_drop, hl]) (fun u hu => h1 u (mem_of_sub hu)) (fun hne => ?_) (fun j c u hc' hu => ?_)
    · rw [hlen] at key; exact key
    · have hpos : 0 < n := by
        rcases Nat.eq_zero_or_pos n with h | h
        · subst h; simp at hne
        · exact h
      obtain ⟨ad, e1, e2⟩ := hn hpos
      obtain ⟨ad', e1', hF, hcell⟩ := hm (by intro e; subst e; simp at hne)
      rw [e1] at e1'; injection e1' with e1'; subst e1'
      refine ⟨ad.add (o * s), e2, by rw [add_block]; exact hF, fun j u hu => ?_⟩
      rw [add_add']
      exact hcell _ u (getElem?_sub _ _ _ _ hu).2
    · rw [flat_sub hcl] at hc'
      exact hr _ c u (getElem?_sub _ _ _ _ hc').2 (getElem?_sub _ _ _ _ hu).2

theorem Ev.setSame {id : Nat} {o o' : AO} (h : H[id]? = some o) (hv : o'.view = o.view) (hr' : o'.isRsv = false) : Ev H ρ (H.set id o') ρ := by
  intro i oo hi hr
  rw [getElem?_set_eq _ _ _ _ (lt_of_some h)]
  split
  · rename_i e; subst e
    have e2 : o = oo := by rw [h] at hi; injection hi
    subst e2
    exact ⟨o', rfl, hr', fun s g N hvv => ⟨s, g, N, hv ▸ hvv, Nat.le_refl _, fun _ => ⟨rfl, Nat.le_refl _, rfl⟩⟩⟩
  · exact ⟨oo, hi, hr, fun s g N hvv => ⟨s, g, N, hvv, Nat.le_refl _, fun _ => ⟨rfl, Nat.le_refl _, rfl⟩⟩⟩

/-- One row is frozen. -/
theorem HeapRep.frz1 (h : HeapRep B F H ρ w) {id T s g : Nat} {es : List AV} {v : Value} (hid : H[id]? = some (.row T s g es)) (hv : ρ[id]? = some v) :
    HeapRep B (fun b => F b ∨ blk v = some b) (H.set id (.fz s g es)) ρ w := by
  have hlt := lt_of_some hid
  have ev : Ev H ρ (H.set id (.fz s g es)) ρ := Ev.setSame hid rfl rfl
  have other : ∀ (id' : Nat) (o1 : AO) (v1 : Value) (b : Nat), id' ≠ id → H[id']? = some o1 → o1.own = true → ρ[id']? = some v1 → blk v1 = some b → ¬ (F b ∨ blk v = some b) := by
    intro id' o1 v1 b hne h1 h2 h3 h4 hc
    rcases hc with hc | hc
    · exact (h.ownBlk h1 h2 h3 h4).2.2 hc
    · exact hne (h.dist id' id o1 _ v1 v b h1 hid h2 rfl h3 hv h4 hc)
  refine ⟨by simp [h.len], h.base, ?_, ?_, ?_, ?_, ?_, ?_, ?_⟩
  · rintro b (hb | hb)
    · exact h.fb b hb
    · exact (h.rowBlk hid hv hb).2.1
  · intro id' T' s' g' es' hr
    rw [getElem?_set_eq _ _ _ _ hlt] at hr
    split at hr
    · cases hr
    · rename_i hne
      obtain ⟨v1, us, R⟩ := h.row _ _ _ _ _ hr
      exact ⟨v1, us, R.turn rfl (fun _ x => .inl x) (fun _ _ => rfl) (fun b hb => ⟨rfl, other id' _ v1 b hne hr rfl R.at_ hb⟩)⟩
  · intro id' T' s' e hr
    rw [getElem?_set_eq _ _ _ _ hlt] at hr
    split at hr
    · cases hr
    · rename_i hne
      obtain ⟨b, us, R⟩ := h.box _ _ _ _ hr
      exact ⟨b, us, R.turn rfl ev (fun _ x => .inl x) (fun _ _ => rfl) ⟨rfl, other id' _ _ b hne hr rfl R.at_ rfl⟩⟩
  · intro id' s' g' es' hr
    rw [getElem?_set_eq _ _ _ _ hlt] at hr
    split at hr
    · rename_i e; subst e
      injection hr with hr; injection hr with h1 h2 h3; subst h1 h2 h3
      obtain ⟨v1, us, R⟩ := h.row _ _ _ _ _ hid
      have : v1 = v := by have := R.at_.symm.trans hv; simpa using this
      subst this
      exact ⟨v1, hv, R.imm (fun _ x => .inl x) (fun b hb => .inr hb)⟩
    · obtain ⟨v1, hv1, hi⟩ := h.fz _ _ _ _ hr
      exact ⟨v1, hv1, hi.mono (fun _ x => .inl x) (fun _ _ => rfl)⟩
  · intro id' d hr
    rw [getElem?_set_eq _ _ _ _ hlt] at hr
    split at hr
    · cases hr
    · rename_i hne
      obtain ⟨b, c0, R⟩ := h.obj _ _ hr
      exact ⟨b, c0, R.turn rfl (Nat.le_refl _) ⟨rfl, other id' _ _ b hne hr rfl R.at_ (OD.blk_handle d b c0)⟩⟩
  · intro id' T' s' g' es' hr
    rw [getElem?_set_eq _ _ _ _ hlt] at hr
    split at hr
    · cases hr
    · rename_i hne
      obtain ⟨v1, us, R⟩ := h.rr _ _ _ _ _ hr
      exact ⟨v1, us, R.turn rfl ev (fun _ x => .inl x) (fun _ _ => rfl) (fun b hb => ⟨rfl, other id' _ v1 b hne hr rfl R.at_ hb⟩)⟩
  · intro i1 i2 o1 o2 v1 v2 b h1 h2 p1 p2 r1 r2 b1 b2
    rw [getElem?_set_eq _ _ _ _ hlt] at h1 h2
    split at h1
    · injection h1 with h1; subst h1; simp [AO.own] at p1
    · split at h2
      · injection h2 with h2; subst h2; simp [AO.own] at p2
      · exact h.dist i1 i2 o1 o2 v1 v2 b h1 h2 p1 p2 r1 r2 b1 b2

/-- The rows 'ids' are frozen: where they lie belongs to F now. -/
theorem HeapRep.frz : ∀ (ids : List Nat) {F : Nat → Prop} {H : List AO}, HeapRep B F H ρ w →
    ∃ F' : Nat → Prop, HeapRep B F' (frz ids H) ρ w ∧ Ev H ρ (PI.frz ids H) ρ ∧ (∀ b, F b → F' b) ∧ (∀ b, F' b → F b ∨ B ≤ b) ∧ (PI.frz ids H).length = H.length ∧
      ∀ id T s g es v b, H[id]? = some (.row T s g es) → ρ[id]? = some v → blk v = some b → id ∈ ids → F' b
  | [], F, H, h => ⟨F, h, Ev.refl _ _, fun _ x => x, fun _ x => .inl x, rfl, fun _ _ _ _ _ _ _ _ _ _ hm => by cases hm⟩
  | i :: r, F, H, h => by
    have simple : (∀ T s g es, H[i]? ≠ some (.row T s g es)) → PI.frz (i :: r) H = PI.frz r H := by
      intro hno
      cases hi : H[i]? with
      | none => simp [PI.frz, hi]
      | some o => cases o with
        | row T s g es => exact absurd hi (hno T s g es)
        | fz s g es => simp [PI.frz, hi]
        | box T s e => simp [PI.frz, hi]
        | rr => simp [PI.frz, hi]
        | obj d => simp [PI.frz, hi]
        | rsv t => simp [PI.frz, hi]
        | gone => simp [PI.frz, hi]
    by_cases hrow : ∃ T s g es, H[i]? = some (.row T s g es)
    · obtain ⟨T, s, g, es, hi⟩ := hrow
      obtain ⟨v, us, R⟩ := h.row _ _ _ _ _ hi
      have e1 : PI.frz (i :: r) H = PI.frz r (H.set i (.fz s g es)) := by simp [PI.frz, hi]
      obtain ⟨F', h1, h2, h3, h4, h5, h6⟩ := HeapRep.frz r (h.frz1 hi R.at_)
      refine ⟨F', by rw [e1]; exact h1, by rw [e1]; exact (Ev.setSame (o' := .fz s g es) hi rfl rfl).trans h2, fun b hb => h3 b (.inl hb), ?_, by rw [e1, h5]; simp, ?_⟩
      · intro b hb
        rcases h4 b hb with (hb | hb) | hb
        · exact .inl hb
        · exact .inr (h.rowBlk hi R.at_ hb).1
        · exact .inr hb
      · intro id T' s' g' es' v' b hr hv hb hm
        by_cases hid : id = i
        · subst hid
          have : v' = v := by have := hv.symm.trans R.at_; simpa using this
          subst this
          exact h3 b (.inr hb)
        · refine h6 id T' s' g' es' v' b (by rw [getElem?_set_eq _ _ _ _ (lt_of_some hi), if_neg hid]; exact hr) hv hb ?_
          rcases List.mem_cons.1 hm with h | h
          · exact absurd h hid
          · exact h
    · have e1 := simple (fun T s g es hh => hrow ⟨T, s, g, es, hh⟩)
      obtain ⟨F', h1, h2, h3, h4, h5, h6⟩ := HeapRep.frz r h
      refine ⟨F', by rw [e1]; exact h1, by rw [e1]; exact h2, h3, h4, by rw [e1]; exact h5, ?_⟩
      intro id T' s' g' es' v' b hr hv hb hm
      rcases List.mem_cons.1 hm with h | h
      · subst h; exact absurd ⟨T', s', g', es', hr⟩ hrow
      · exact h6 id T' s' g' es' v' b hr hv hb h

theorem rdRow_some {id g s : Nat} {es : List AV} (h : rdRow H id g = some (s, es)) : (∃ T, H[id]? = some (.row T s g es)) ∨ H[id]? = some (.fz s g es) := by
  unfold rdRow at h
  cases ho : H[id]? with
  | none => rw [ho] at h; cases h
  | some ob => rw [ho] at h; cases ob with
    | row T s' g' es' =>
      simp only at h
      split at h
      · rename_i e; subst e; injection h with h; injection h with h1 h2; subst h1 h2; exact .inl ⟨T, rfl⟩
      · cases h
    | fz s' g' es' =>
      simp only at h
      split at h
      · rename_i e; subst e; injection h with h; injection h with h1 h2; subst h1 h2; exact .inr rfl
      · cases h
    | box => cases h
    | rr => cases h
    | obj => cases h
    | rsv => cases h
    | gone => cases h

/-- What a handle's row is in memory, whether it is still written or not. -/
theorem ref_read (hp : HeapRep B F H ρ w) {id g o n s : Nat} {es : List AV} (h : RefOk H ρ id g o n x) (hr : rdRow H id g = some (s, es)) :
    o + n ≤ es.length ∧ ∃ v0, ρ[id]? = some v0 ∧ SubSlice v0 s o n x := by
  obtain ⟨ob, hob, _, hv⟩ := h
  rcases rdRow_some hr with ⟨T, h1⟩ | h1 <;> rw [h1] at hob <;> injection hob with hob <;> subst hob <;> exact (hv s g es.length rfl).2 rfl

/-- A handle, read as what it reads. -/
theorem conv0_ir (hp : HeapRep B F H ρ w) {v : AV} (h : VR H ρ F w v x) (hF : ∀ b, F b → F' b)
    (hr : ∀ id T s g es v0 b, H[id]? = some (.row T s g es) → ρ[id]? = some v0 → blk v0 = some b → id ∈ refs0 v → F' b) : IR F' w (conv0 H v) x := by
  have im : IR F w v x → IR F' w v x := fun h => h.mono hF (fun _ _ => rfl)
  cases v with
  | ref id g o n =>
    obtain ⟨A, c, rfl, hok⟩ := h.ref_inv
    show IR F' w (match rdRow H id g with
      | some r => .sl r.1 ((r.2.drop o).take n)
      | none => .top) _
    cases hrd : rdRow H id g with
    | none => exact .top _
    | some r =>
      obtain ⟨s, es⟩ := r
      obtain ⟨_, v0, hv0, hsub⟩ := ref_read hp hok hrd
      rcases rdRow_some hrd with ⟨T, h1⟩ | h1
      · obtain ⟨v1, us, R⟩ := hp.row _ _ _ _ _ h1
        have : v1 = v0 := by have := R.at_.symm.trans hv0; simpa using this
        subst this
        exact (R.imm hF (fun b hb => hr id T s g es v1 b h1 R.at_ hb (by simp [refs0]))).sub hsub
      · obtain ⟨v1, hv1, hi⟩ := hp.fz _ _ _ _ h1
        have : v1 = v0 := by have := hv1.symm.trans hv0; simpa using this
        subst this
        exact (hi.mono hF (fun _ _ => rfl)).sub hsub
  | fn f cs =>
    cases cs with
    | nil =>
      obtain ⟨us, rfl, hl, _⟩ := h.fn_inv
      have : us = [] := List.eq_nil_of_length_eq_zero (by simpa using hl.symm)
      subst this
      exact .fn f [] [] rfl (fun j c u hc _ => by simp at hc)
    | cons => exact .top _
  | bptr => exact .top _
  | rptr => exact .top _
  | agg => exact .top _
  | tup => exact .top _
  | top => exact .top _
  | mp => exact .top _
  | itr => exact .top _
  | nils => cases h with | imm h => exact im h
  | en => cases h with | imm h => exact im h
  | bool b => cases h with | imm h => exact im h
  | int k n => cases h with | imm h => exact im h
  | str l => cases h with | imm h => exact im h
  | nilp => cases h with | imm h => exact im h
  | cptr e o => cases h with | imm h => exact im h
  | e0 => cases h with | imm h => exact im h
  | sl s es => cases h with | imm h => exact im h

theorem conv1_ir (hp : HeapRep B F H ρ w) {v : AV} (h : VR H ρ F w v x) (hF : ∀ b, F b → F' b)
    (hr : ∀ id T s g es v0 b, H[id]? = some (.row T s g es) → ρ[id]? = some v0 → blk v0 = some b → id ∈ refs1 v → F' b) : IR F' w (conv1 H v) x := by
  have sub : ∀ (cs : List AV) (us : List Value), (∀ c ∈ cs, ∀ id ∈ refs0 c, id ∈ refs1 v) → (∀ (j : Nat) (c : AV) (u : Value), cs[j]? = some c → us[j]? = some u → VR H ρ F w c u) →
      ∀ (j : Nat) (c : AV) (u : Value), (cs.map (conv0 H))[j]? = some c → us[j]? = some u → IR F' w c u := by
    intro cs us hm hc j c u hj hu
    rw [List.getElem?_map] at hj
    cases hcj : cs[j]? with
    | none => rw [hcj] at hj; cases hj
    | some c0 =>
      rw [hcj] at hj; simp at hj; subst hj
      exact conv0_ir hp (hc j c0 u hcj hu) hF (fun id T s g es v0 b a1 a2 a3 a4 => hr id T s g es v0 b a1 a2 a3 (hm c0 (List.mem_of_getElem? hcj) id a4))
  cases v with
  | agg cs =>
    obtain ⟨us, rfl, hl, h1, h2⟩ := h.agg_inv
    exact .agg _ us (by simpa using hl) h1 (sub cs us (fun c hc id hid => List.mem_flatMap.2 ⟨c, hc, hid⟩) h2)
  | fn f cs =>
    obtain ⟨us, rfl, hl, h2⟩ := h.fn_inv
    exact .fn f _ us (by simpa using hl) (sub cs us (fun c hc id hid => List.mem_flatMap.2 ⟨c, hc, hid⟩) h2)
  | _ => exact conv0_ir hp h hF hr

theorem conv0_cells (H : List AO) (v : AV) (hv : ∀ cs, v ≠ .agg cs) : (conv0 H v).cells.length = 1 := by
  cases v with
  | ref id g o n =>
    unfold conv0
    simp only
    cases rdRow H id g <;> rfl
  | agg cs => exact absurd rfl (hv cs)
  | fn f cs => cases cs <;> rfl
  | _ => rfl

theorem conv1_cells (H : List AO) (v : AV) : (conv1 H v).cells.length = v.cells.length := by
  cases v with
  | agg cs => simp [conv1, AV.cells]
  | fn f cs => rfl
  | ref id g o n => exact conv0_cells H (.ref id g o n) (fun _ h => by cases h)
  | _ => rfl

theorem flat_bytes (l : List UInt8) : flat (l.map fun b => AV.int .u8 b.toNat) = l.map fun b => AV.int .u8 b.toNat := by
  induction l with
  | nil => rfl
  | cons y l ih =>
    simp only [flat] at ih ⊢
    simp only [List.map_cons, List.flatMap_cons, ih]
    rfl
/-- What an appended, indexed or sliced operand reads as. -/
theorem elems_spec (hp : HeapRep B F H ρ w) {s : Nat} {v : AV} {news : List AV} (h : VR H ρ F w v x) (he : elems H s v = some news) (hs : 0 < s) :
    ∃ (A : Option Addr) (c : Nat) (us : List Value), x = .slice A news.length c ∧ (∀ e ∈ news, e.cells.length = s) ∧ us.length = news.length * s ∧ (∀ u ∈ us, u.oneCell' = true) ∧
      (0 < news.length → ∃ ad : Addr, A = some ad ∧ ∀ j u, us[j]? = some u → w.cell? (ad.add j) = some u) ∧
      ∀ (j : Nat) (c : AV) (u : Value), (flat news)[j]? = some c → us[j]? = some u → IR F w c u := by
  cases v with
  | e0 =>
    simp [elems] at he; subst he
    obtain ⟨a, rfl⟩ := h.e0_inv
    exact ⟨a, 0, [], rfl, by simp, by simp, by simp, by simp, fun j c u hc => by simp [flat] at hc⟩
  | nils =>
    simp [elems] at he; subst he
    cases h with
    | imm h => cases h with | nils cap _ => exact ⟨none, cap, [], rfl, by simp, by simp, by simp, by simp, fun j c u hc => by simp [flat] at hc⟩
  | en =>
    simp [elems] at he; subst he
    cases h with
    | imm h => cases h with
      | en a cap hcap => exact ⟨some a, cap, [], rfl, by simp, by simp, by simp, by simp, fun j c u hc => by simp [flat] at hc⟩
  | sl s' es =>
    simp [elems] at he
    obtain ⟨rfl, rfl⟩ := he
    cases h.sl_inv with
    | sl _ _ a cap us hc hcm hcl hl h1 hm hr =>
      refine ⟨a, cap, us, rfl, hcl, by rw [← hl, flat_len hcl], h1, fun hpos => ?_, hr⟩
      obtain ⟨ad, e1, _, e3⟩ := hm (by intro e; subst e; simp at hpos)
      exact ⟨ad, e1, e3⟩
  | itr id =>
    simp only [elems] at he
    split at he
    case h_2 => cases he
    rename_i l hob
    split at he
    case isFalse => cases he
    rename_i hs1
    subst hs1
    injection he with he; subst he
    have hok : ObjOk H ρ id x := by
      cases h with
      | imm h => cases h
      | itr _ _ _ h => exact h
    obtain ⟨b, c, R⟩ := hp.obj _ _ hob
    obtain ⟨ob, h1, _, h2⟩ := hok
    have : ob = .obj (.bb l) := by have := h1.symm.trans hob; simpa using this
    subst this
    have h3 := h2 0 0 0 rfl rfl
    have hx : x = .slice (some ⟨b, 0, none⟩) l.length c := by
      have := h3.symm.trans R.at_
      simpa [OD.handle] using this
    subst hx
    obtain ⟨cur, T, fz, hcur, _, _, hcell⟩ := R.own
    have hget : ∀ (j : Nat) (u : Value), (l.map fun b => Value.int .u8 b.toNat)[j]? = some u → w.cell? ((⟨b, 0, none⟩ : Addr).add j) = some u := by
      intro j u hu
      rw [List.getElem?_map] at hu
      cases hl : l[j]? with
      | none => rw [hl] at hu; cases hu
      | some y =>
        rw [hl] at hu
        simp only [Option.map_some, Option.some.injEq] at hu
        subst hu
        have := hcell j y hl
        have hadd : (⟨b, 0, none⟩ : Addr).add j = ⟨b, j, none⟩ := by unfold Addr.add; split <;> simp_all
        rw [hadd]
        simp [World.cell?, hcur, this]
    refine ⟨some ⟨b, 0, none⟩, c, l.map fun b => Value.int .u8 b.toNat, by simp, ?_, by simp, ?_, fun _ => ⟨_, rfl, hget⟩, ?_⟩
    · intro e he
      obtain ⟨y, _, rfl⟩ := List.mem_map.1 he
      rfl
    · intro u hu
      obtain ⟨y, _, rfl⟩ := List.mem_map.1 hu
      rfl
    · intro j c0 u hc hu
      have hf := flat_bytes l
      rw [hf, List.getElem?_map] at hc
      rw [List.getElem?_map] at hu
      cases hl : l[j]? with
      | none => rw [hl] at hu; cases hu
      | some y =>
        rw [hl] at hu hc
        simp only [Option.map_some, Option.some.injEq] at hu hc
        subst hu hc
        exact .int _ _
  | ref id g o n =>
    obtain ⟨A, c, rfl, hok⟩ := h.ref_inv
    simp only [elems] at he
    cases hrd : rdRow H id g with
    | none => rw [hrd] at he; cases he
    | some r =>
      obtain ⟨s0, es⟩ := r
      rw [hrd] at he
      simp only [Option.bind_some] at he
      split at he
      case isFalse => cases he
      rename_i hs0
      subst hs0
      injection he with he; subst he
      obtain ⟨hon, v0, hv0, hsub⟩ := ref_read hp hok hrd
      have hlen : ((es.drop o).take n).length = n := by rw [List.length_take, List.length_drop]; omega
      rcases rdRow_some hrd with ⟨T, hob⟩ | hob
      · obtain ⟨v1, us, R⟩ := hp.row _ _ _ _ _ hob
        have : v1 = v0 := by have := R.at_.symm.trans hv0; simpa using this
        subst this
        obtain ⟨A1, N1, cap1, A2, e1, e2, hoN, hn, h0⟩ := hsub
        injection e2 with e2a e2b e2c
        refine ⟨A, c, (us.drop (o * s0)).take (n * s0), by rw [hlen], fun e he => R.cells e (mem_of_sub he), ?_, fun u hu => R.one u (mem_of_sub hu), fun hpos => ?_, fun j c u hc hu => ?_⟩
        · rw [hlen, List.length_take, List.length_drop, R.own.1, Nat.min_eq_left]
          rw [← Nat.sub_mul]; exact Nat.mul_le_mul_right _ (by omega)
        · rw [hlen] at hpos
          obtain ⟨ad, f1, f2⟩ := hn hpos
          refine ⟨ad.add (o * s0), by rw [e2a]; exact f2, fun j u hu => ?_⟩
          rw [add_add']
          subst e1; subst f1
          rcases R.own.2 with ⟨hnil, _⟩ | ⟨gb, cap, cur, hvv, _⟩
          · cases hnil
          · injection hvv with q1 q2 q3
            injection q1 with q1; subst q1
            exact R.own.cells (g := gb) rfl _ u (getElem?_sub _ _ _ _ hu).2
        · rw [flat_sub R.cells] at hc
          exact R.rel _ c u (getElem?_sub _ _ _ _ hc).2 (getElem?_sub _ _ _ _ hu).2
      · obtain ⟨v1, hv1, hi⟩ := hp.fz _ _ _ _ hob
        have : v1 = v0 := by have := hv1.symm.trans hv0; simpa using this
        subst this
        have hI := hi.sub hsub
        generalize hx : Value.slice A n c = xx at hI
        cases hI with
        | sl _ _ a cap us hc hcm hcl hl h1 hm hr =>
          refine ⟨a, cap, us, rfl, hcl, by rw [← hl, flat_len hcl], h1, fun hpos => ?_, hr⟩
          obtain ⟨ad, e1, _, e3⟩ := hm (by intro e; rw [e] at hpos; simp at hpos)
          exact ⟨ad, e1, e3⟩
  | _ => cases he

end
end Go.PI
