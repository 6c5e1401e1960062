/- A region that draws its order: whatever order the edges allow, it ends as in the order of its text. No condition. -/
import Derived.Test.YtedaefjmclkifaaPi14
namespace Go.PI
open Go.RowKit

/- the table of what comes before -/
theorem befs_pre : ∀ (l : List Oper) (acc : List Nat), ∃ R, befs l acc = acc ++ R ∧ R.length = l.length
  | [], acc => ⟨[], by simp [befs]⟩
  | o :: r, acc => by
    obtain ⟨R, h1, h2⟩ := befs_pre r (acc ++ [maskOf acc o.after.toList])
    exact ⟨maskOf acc o.after.toList :: R, by simp only [befs]; rw [h1]; simp, by simp [h2]⟩

theorem befs_at : ∀ (l : List Oper) (acc : List Nat) (j : Nat) (o : Oper), l[j]? = some o → (befs l acc)[acc.length + j]? = some (maskOf ((befs l acc).take (acc.length + j)) o.after.toList)
  | [], acc, j, o, h => by simp at h
  | x :: r, acc, 0, o, h => by
    simp at h; subst h
    obtain ⟨R, h1, h2⟩ := befs_pre r (acc ++ [maskOf acc x.after.toList])
    simp only [befs, Nat.add_zero]
    rw [h1]
    simp
  | x :: r, acc, j + 1, o, h => by
    have := befs_at r (acc ++ [maskOf acc x.after.toList]) j o (by simpa using h)
    simp only [befs]
    simp only [List.length_append, List.length_cons, List.length_nil] at this
    rw [show acc.length + (j + 1) = acc.length + (0 + 1) + j by omega]
    exact this

theorem maskOf_fold (acc : List Nat) (i : Nat) : ∀ (es : List Edge) (s : Nat), (es.foldl (fun s ed => if Region.binds .any ed = true then s ||| 2 ^ ed.on ||| acc.getD ed.on 0 else s) s).testBit i = true →
    s.testBit i = true ∨ ∃ ed ∈ es, Region.binds .any ed = true ∧ (ed.on = i ∨ (acc.getD ed.on 0).testBit i = true)
  | [], s, h => .inl h
  | ed :: r, s, h => by
    simp only [List.foldl_cons] at h
    rcases maskOf_fold acc i r _ h with h | ⟨ed', hm, hb, hh⟩
    · split at h
      · rename_i hb
        rw [Nat.testBit_or, Nat.testBit_or, Nat.testBit_two_pow] at h
        simp only [Bool.or_eq_true, decide_eq_true_eq] at h
        rcases h with (h | h) | h
        · exact .inl h
        · exact .inr ⟨ed, by simp, hb, .inl h⟩
        · exact .inr ⟨ed, by simp, hb, .inr h⟩
      · exact .inl h
    · exact .inr ⟨ed', List.mem_cons_of_mem _ hm, hb, hh⟩

theorem befs_bit {ops : List Oper} {j i : Nat} {o : Oper} (ho : ops[j]? = some o) (h : ((befs ops []).getD j 0).testBit i = true) :
    ∃ ed ∈ o.after.toList, Region.binds .any ed = true ∧ (ed.on = i ∨ ((befs ops []).getD ed.on 0).testBit i = true) := by
  have h1 := befs_at ops [] j o ho
  simp only [List.length_nil, Nat.zero_add] at h1
  rw [List.getD_eq_getElem?_getD, h1] at h
  simp only [Option.getD_some, maskOf] at h
  rcases maskOf_fold _ i _ 0 h with h | ⟨ed, hm, hb, hh⟩
  · simp at h
  · refine ⟨ed, hm, hb, hh.imp id fun hh => ?_⟩
    rw [List.getD_eq_getElem?_getD, List.getElem?_take] at hh
    split at hh
    · rw [List.getD_eq_getElem?_getD]; exact hh
    · simp at hh

/- reading is the same where rows are only added or frozen -/
def HSame (H H' : List AO) : Prop := ∀ (id : Nat) (o : AO), H[id]? = some o → ∃ o', H'[id]? = some o' ∧ (o' = o ∨ ∃ T s g es, o = .row T s g es ∧ o' = .fz s g es)

theorem HSame.refl (H : List AO) : HSame H H := fun _ o h => ⟨o, h, .inl rfl⟩
theorem HSame.trans {H H' H'' : List AO} (h : HSame H H') (k : HSame H' H'') : HSame H H'' := by
  intro id o ho
  obtain ⟨o', h1, h2⟩ := h id o ho
  obtain ⟨o'', h3, h4⟩ := k id o' h1
  refine ⟨o'', h3, ?_⟩
  rcases h2 with rfl | ⟨T, s, g, es, rfl, rfl⟩
  · exact h4
  · rcases h4 with rfl | ⟨_, _, _, _, hh, _⟩
    · exact .inr ⟨T, s, g, es, rfl, rfl⟩
    · cases hh
theorem HSame.push (H X : List AO) : HSame H (H ++ X) := fun id o h => ⟨o, by rw [List.getElem?_append_left (lt_of_some h)]; exact h, .inl rfl⟩
theorem HSame.frz : ∀ (ids : List Nat) (H : List AO), HSame H (frz ids H)
  | [], H => HSame.refl H
  | i :: r, H => by
    unfold PI.frz
    split
    · rename_i T s g es hi
      refine HSame.trans ?_ (HSame.frz r _)
      intro id o ho
      rw [getElem?_set_eq _ _ _ _ (lt_of_some hi)]
      split
      · rename_i hid; subst hid
        rw [hi] at ho; injection ho with ho; subst ho
        exact ⟨_, rfl, .inr ⟨T, s, g, es, rfl, rfl⟩⟩
      · exact ⟨o, ho, .inl rfl⟩
    · exact HSame.frz r H

theorem HSame.rd {H H' : List AO} (h : HSame H H') {id : Nat} {o : AO} (ho : H[id]? = some o) (g : Nat) : rdRow H' id g = rdRow H id g := by
  obtain ⟨o', h1, h2⟩ := h id o ho
  unfold rdRow
  rw [h1, ho]
  rcases h2 with rfl | ⟨T, s, g', es, rfl, rfl⟩ <;> rfl

def inSc (H : List AO) : AV → Prop
  | .ref id _ _ _ => ∃ o, H[id]? = some o
  | .bptr id _ => ∃ o, H[id]? = some o
  | .rptr id _ _ _ => ∃ o, H[id]? = some o
  | _ => True

theorem VR.inSc {H : List AO} {ρ : List Value} {F : Nat → Prop} {w : World} {v : AV} {x : Value} (h : VR H ρ F w v x) : PI.inSc H v := by
  cases v with
  | ref id g o n => obtain ⟨_, _, _, ob, hob, _⟩ := h.ref_inv; exact ⟨ob, hob⟩
  | bptr id o => obtain ⟨_, _, ob, hob, _⟩ := h.bptr_inv; exact ⟨ob, hob⟩
  | rptr id g i o => obtain ⟨_, _, ob, hob, _⟩ := h.rptr_inv; exact ⟨ob, hob⟩
  | _ => trivial

theorem rd_scoped {H : List AO} {id g : Nat} {r : Nat × List AV} (h : rdRow H id g = some r) : ∃ o, H[id]? = some o := by
  obtain ⟨s, es⟩ := r
  rcases rdRow_some h with ⟨T, h1⟩ | h1 <;> exact ⟨_, h1⟩

theorem HSame.load {H H' : List AO} (h : HSame H H') {ag : Bool} {n : Nat} {p : AV} (hp : inSc H p) : aload ag n H' p = aload ag n H p := by
  unfold aload
  congr 1
  cases p with
  | bptr id o =>
    obtain ⟨ob, hob⟩ := hp
    obtain ⟨o', h1, h2⟩ := h id ob hob
    simp only [pelem, h1, hob]
    rcases h2 with rfl | ⟨T, s, g', es, rfl, rfl⟩ <;> rfl
  | rptr id g i o =>
    obtain ⟨ob, hob⟩ := hp
    simp only [pelem, h.rd hob]
  | _ => rfl
theorem HSame.slc {H H' : List AO} (h : HSame H H') {s l k : Nat} {p : AV} (hp : inSc H p) : aslc s l k H' p = aslc s l k H p := by
  cases p with
  | ref id g o n => obtain ⟨ob, hob⟩ := hp; simp only [aslc, h.rd hob]
  | _ => rfl
theorem HSame.idx {H H' : List AO} (h : HSame H H') {s i : Nat} {p : AV} (hp : inSc H p) : aidx s i H' p = aidx s i H p := by
  cases p with
  | ref id g o n => obtain ⟨ob, hob⟩ := hp; simp only [aidx, h.rd hob]
  | _ => rfl

theorem load_scoped {H : List AO} {ag : Bool} {n : Nat} {p d : AV} (h : aload ag n H p = some d) : inSc H p := by
  unfold aload at h
  obtain ⟨r, hr, _⟩ := Option.bind_eq_some_iff.1 h
  cases p with
  | bptr id o =>
    simp only [pelem] at hr
    cases ho : H[id]? with
    | none => rw [ho] at hr; cases hr
    | some ob => exact ⟨ob, ho⟩
  | rptr id g i o =>
    simp only [pelem] at hr
    obtain ⟨q, hq, _⟩ := Option.bind_eq_some_iff.1 hr
    exact rd_scoped hq
  | _ => trivial
theorem slc_scoped {H : List AO} {s l k : Nat} {p d : AV} (h : aslc s l k H p = some d) : inSc H p := by
  cases p with
  | ref id g o n => simp only [aslc] at h; obtain ⟨q, hq, _⟩ := Option.bind_eq_some_iff.1 h; exact rd_scoped hq
  | bptr => cases h
  | rptr => cases h
  | _ => trivial
theorem idx_scoped {H : List AO} {s i : Nat} {p d : AV} (h : aidx s i H p = some d) : inSc H p := by
  cases p with
  | ref id g o n => simp only [aidx] at h; obtain ⟨q, hq, _⟩ := Option.bind_eq_some_iff.1 h; exact rd_scoped hq
  | bptr => cases h
  | rptr => cases h
  | _ => trivial

section
variable {φ : Nat → List AV → Option (AV × List AO)}

/-- A quiet operation leaves the rows alone. -/
theorem aop_quiet {op : IOp} {e : Env} {H H' : List AO} {d : AV} (hq : loudI op = false) (h : aop φ op e H = some (d, H')) : H' = H := by
  cases op <;> simp only [loudI, Bool.true_eq_false, reduceCtorEq] at hq <;> simp only [aop] at h
  case mv => simp at h; exact h.2.symm
  case pick => split at h <;> simp at h; exact h.2.symm
  case build => obtain ⟨_, _, h⟩ := Option.map_eq_some_iff.1 h; simp at h; exact h.2.symm
  case load => obtain ⟨_, _, h⟩ := Option.map_eq_some_iff.1 h; simp at h; exact h.2.symm
  case chk => obtain ⟨_, _, h⟩ := Option.map_eq_some_iff.1 h; simp at h; exact h.2.symm
  case bin => obtain ⟨_, _, h⟩ := Option.map_eq_some_iff.1 h; simp at h; exact h.2.symm
  case aeq => split at h
              · obtain ⟨_, _, h⟩ := Option.map_eq_some_iff.1 h; simp at h; exact h.2.symm
              · cases h
  case beq => split at h <;> simp at h; exact h.2.symm
  case sid => split at h <;> simp at h; exact h.2.symm
  case un => obtain ⟨_, _, h⟩ := Option.map_eq_some_iff.1 h; simp at h; exact h.2.symm
  case conv => split at h <;> simp at h; exact h.2.symm
  case slc =>
    obtain ⟨_, _, h⟩ := Option.bind_eq_some_iff.1 h
    obtain ⟨_, _, h⟩ := Option.bind_eq_some_iff.1 h
    obtain ⟨_, _, h⟩ := Option.map_eq_some_iff.1 h; simp at h; exact h.2.symm
  case sls =>
    split at h
    · obtain ⟨_, _, h⟩ := Option.map_eq_some_iff.1 h; simp at h; exact h.2.symm
    · cases h
  case z0 => obtain ⟨_, _, h⟩ := Option.map_eq_some_iff.1 h; simp at h; exact h.2.symm
  case fld => obtain ⟨_, _, h⟩ := Option.map_eq_some_iff.1 h; simp at h; exact h.2.symm
  case prt =>
    split at h
    · obtain ⟨_, _, h⟩ := Option.map_eq_some_iff.1 h; simp at h; exact h.2.symm
    · cases h
  case idx =>
    obtain ⟨_, _, h⟩ := Option.bind_eq_some_iff.1 h
    obtain ⟨_, _, h⟩ := Option.map_eq_some_iff.1 h; simp at h; exact h.2.symm
  case sidx =>
    split at h
    · obtain ⟨_, _, h⟩ := Option.bind_eq_some_iff.1 h
      obtain ⟨_, _, h⟩ := Option.map_eq_some_iff.1 h; simp at h; exact h.2.symm
    · cases h
  case ext =>
    split at h
    · obtain ⟨_, _, h⟩ := Option.map_eq_some_iff.1 h; simp at h; exact h.2.symm
    · cases h
  case len => obtain ⟨_, _, h⟩ := Option.map_eq_some_iff.1 h; simp at h; exact h.2.symm
  case slen => split at h <;> simp at h; exact h.2.symm
  case mx => split at h
             · split at h
               · simp at h; exact h.2.symm
               · cases h
             · cases h
  case mn => split at h
             · split at h
               · simp at h; exact h.2.symm
               · cases h
             · cases h
  case mkfn => simp at h; exact h.2.symm

/-- A quiet operation that reads no row. -/
theorem aop_indep {op : IOp} {e : Env} {H H' : List AO} {d : AV} (hq : loudI op = false) (hrd : rdOp op = none) : aop φ op e H = some (d, H) ↔ aop φ op e H' = some (d, H') := by
  cases op <;> simp only [loudI, Bool.true_eq_false, reduceCtorEq] at hq <;> simp only [rdOp, reduceCtorEq] at hrd
  case mx x y => simp only [aop]; split <;> (try split) <;> simp
  case mn x y => simp only [aop]; split <;> (try split) <;> simp
  case sidx x y => simp only [aop]; split <;> simp [Option.bind_eq_some_iff]
  case pick => simp only [aop]; split <;> simp
  case aeq => simp only [aop]; split <;> simp
  case beq => simp only [aop]; split <;> simp
  case sid => simp only [aop]; split <;> simp
  case conv => simp only [aop]; split <;> simp
  case sls => simp only [aop]; split <;> simp
  case prt => simp only [aop]; split <;> simp
  case ext => simp only [aop]; split <;> simp
  case slen => simp only [aop]; split <;> simp
  all_goals simp [aop]

/-- A quiet operation gives the same where rows are only added or frozen. -/
theorem aop_same {op : IOp} {e : Env} {H H' : List AO} {d : AV} (hq : loudI op = false) (hs : HSame H H') :
    (aop φ op e H = some (d, H) → aop φ op e H' = some (d, H')) ∧ ((∀ x, rdOp op = some x → inSc H (x.ev e)) → aop φ op e H' = some (d, H') → aop φ op e H = some (d, H)) := by
  by_cases hrd : rdOp op = none
  · exact ⟨(aop_indep hq hrd).1, fun _ => (aop_indep hq hrd).2⟩
  cases op <;> try (exact absurd rfl hrd)
  case load ag n x =>
    simp only [aop]
    constructor
    · intro h
      obtain ⟨v, hv, h2⟩ := Option.map_eq_some_iff.1 h
      simp at h2; subst h2
      rw [hs.load (load_scoped hv), hv]; rfl
    · intro hsc h
      rw [hs.load (hsc x rfl)] at h
      obtain ⟨v, hv, h2⟩ := Option.map_eq_some_iff.1 h
      simp at h2; subst h2
      rw [hv]; rfl
  case slc s x lo hi =>
    simp only [aop]
    constructor
    · intro h
      obtain ⟨n, hn, h⟩ := Option.bind_eq_some_iff.1 h
      obtain ⟨lh, hlh, h⟩ := Option.bind_eq_some_iff.1 h
      obtain ⟨v, hv, h2⟩ := Option.map_eq_some_iff.1 h
      simp at h2; subst h2
      rw [hn]; simp only [Option.bind_some]; rw [hlh]; simp only [Option.bind_some]
      rw [hs.slc (slc_scoped hv), hv]; rfl
    · intro hsc h
      obtain ⟨n, hn, h⟩ := Option.bind_eq_some_iff.1 h
      obtain ⟨lh, hlh, h⟩ := Option.bind_eq_some_iff.1 h
      obtain ⟨v, hv, h2⟩ := Option.map_eq_some_iff.1 h
      simp at h2; subst h2
      rw [hs.slc (hsc x rfl)] at hv
      rw [hn]; simp only [Option.bind_some]; rw [hlh]; simp only [Option.bind_some]
      rw [hv]; rfl
  case idx s x i =>
    simp only [aop]
    constructor
    · intro h
      obtain ⟨n, hn, h⟩ := Option.bind_eq_some_iff.1 h
      obtain ⟨v, hv, h2⟩ := Option.map_eq_some_iff.1 h
      simp at h2; subst h2
      rw [hn]; simp only [Option.bind_some]
      rw [hs.idx (idx_scoped hv), hv]; rfl
    · intro hsc h
      obtain ⟨n, hn, h⟩ := Option.bind_eq_some_iff.1 h
      obtain ⟨v, hv, h2⟩ := Option.map_eq_some_iff.1 h
      simp at h2; subst h2
      rw [hs.idx (hsc x rfl)] at hv
      rw [hn]; simp only [Option.bind_some]
      rw [hv]; rfl

/-- A loud operation that turns no row but adds and freezes. -/
theorem aop_loud {op : IOp} {e : Env} {H H' : List AO} {d : AV} (hm : modI op = false) (h : aop φ op e H = some (d, H')) : HSame H H' := by
  cases hl : loudI op with
  | false => rw [aop_quiet hl h]; exact HSame.refl _
  | true =>
    cases op <;> simp only [loudI, modI, Bool.true_eq_false, Bool.false_eq_true, reduceCtorEq] at hl hm <;> simp only [aop] at h
    case nilrow => simp at h; rw [← h.2]; exact HSame.push _ _
    case new => split at h <;> simp at h; rw [← h.2]; exact HSame.push _ _
    case box => split at h <;> simp at h; rw [← h.2]; exact HSame.push _ _
    case mkrow =>
      obtain ⟨_, _, h⟩ := Option.map_eq_some_iff.1 h
      simp at h; rw [← h.2]; exact (HSame.frz _ _).trans (HSame.push _ _)
    case mk =>
      obtain ⟨_, _, h⟩ := Option.bind_eq_some_iff.1 h
      obtain ⟨_, _, h⟩ := Option.bind_eq_some_iff.1 h
      split at h <;> simp at h
      rw [← h.2]; exact HSame.push _ _
    case call =>
      split at h
      · obtain ⟨r, _, h⟩ := Option.map_eq_some_iff.1 h
        split at h <;> simp at h
        · rw [← h.2]; exact HSame.refl _
        · rw [← h.2]; exact (HSame.frz _ _).trans (HSame.push _ _)
      · cases h

/- only the slots that are used matter -/
theorem ev_congr {e e' : Env} {x : OP} (h : ∀ t ∈ opTmps x, e.get t = e'.get t) : x.ev e = x.ev e' := by
  cases x with
  | t i => exact h i (by simp [opTmps])
  | c v => rfl
theorem map_ev_congr {e e' : Env} {xs : List OP} (h : ∀ t ∈ xs.flatMap opTmps, e.get t = e'.get t) : xs.map (fun x => x.ev e) = xs.map (fun x => x.ev e') := by
  apply List.map_congr_left
  intro x hx
  exact ev_congr fun t ht => h t (List.mem_flatMap.2 ⟨x, hx, ht⟩)
theorem bnds_congr {e e' : Env} {n : Nat} {lo hi : Option OP} (h1 : ∀ t ∈ optTmps lo, e.get t = e'.get t) (h2 : ∀ t ∈ optTmps hi, e.get t = e'.get t) : bnds e n lo hi = bnds e' n lo hi := by
  unfold bnds
  cases lo with
  | none =>
    cases hi with
    | none => rfl
    | some y => simp only [ev_congr (e := e) (e' := e') (x := y) h2]
  | some x =>
    cases hi with
    | none => simp only [ev_congr (e := e) (e' := e') (x := x) h1]
    | some y => simp only [ev_congr (e := e) (e' := e') (x := x) h1, ev_congr (e := e) (e' := e') (x := y) h2]
theorem fillParts_congr {e e' : Env} : ∀ (ps : List (Nat × Nat × OP)) (cs : List AV), (∀ t ∈ ps.flatMap (fun p => opTmps p.2.2), e.get t = e'.get t) → fillParts e cs ps = fillParts e' cs ps
  | [], cs, _ => rfl
  | (o, s, x) :: r, cs, h => by
    have hx : x.ev e = x.ev e' := ev_congr fun t ht => h t (by simp [ht])
    simp only [fillParts, hx]
    split
    · exact fillParts_congr r _ fun t ht => h t (by simp at ht ⊢; exact .inr ht)
    · rfl
theorem fillRow_congr {e e' : Env} {s : Nat} {H : List AO} : ∀ (ps : List (Nat × OP)) (es : List AV), (∀ t ∈ ps.flatMap (fun p => opTmps p.2), e.get t = e'.get t) → fillRow s e H es ps = fillRow s e' H es ps ∧ rowRefs e ps = rowRefs e' ps
  | [], es, _ => ⟨rfl, rfl⟩
  | (i, x) :: r, es, h => by
    have hx : x.ev e = x.ev e' := ev_congr fun t ht => h t (by simp [ht])
    have ih := fun es => fillRow_congr (e := e) (e' := e') (s := s) (H := H) r es fun t ht => h t (by simp at ht ⊢; exact .inr ht)
    simp only [fillRow, rowRefs, hx]
    refine ⟨?_, by rw [(ih es).2]⟩
    split
    · exact (ih _).1
    · rfl

theorem aop_congr {op : IOp} {e e' : Env} {H : List AO} (h : ∀ t ∈ useI op, e.get t = e'.get t) : aop φ op e H = aop φ op e' H := by
  have one : ∀ x : OP, (∀ t ∈ opTmps x, t ∈ useI op) → x.ev e = x.ev e' := fun x hx => ev_congr fun t ht => h t (hx t ht)
  cases op <;> simp only [aop]
  case mv x => rw [one x (fun t ht => by simpa [useI] using ht)]
  case pick c x y => rw [one c (fun t ht => by simp [useI, ht]), one x (fun t ht => by simp [useI, ht]), one y (fun t ht => by simp [useI, ht])]
  case box T s x => rw [one x (fun t ht => by simpa [useI] using ht)]
  case build z ps => rw [fillParts_congr ps z (fun t ht => h t (by simpa [useI] using ht))]
  case mkrow T s n z ps =>
    obtain ⟨h1, h2⟩ := fillRow_congr (e := e) (e' := e') (s := s) (H := H) ps (List.replicate n z) (fun t ht => h t (by simpa [useI] using ht))
    rw [h1, h2]
  case load ag n x => rw [one x (fun t ht => by simpa [useI] using ht)]
  case store n x y => rw [one x (fun t ht => by simp [useI, ht]), one y (fun t ht => by simp [useI, ht])]
  case chk x => rw [one x (fun t ht => by simpa [useI] using ht)]
  case bin op x y => rw [one x (fun t ht => by simp [useI, ht]), one y (fun t ht => by simp [useI, ht])]
  case aeq neg ks x y => rw [one x (fun t ht => by simp [useI, ht]), one y (fun t ht => by simp [useI, ht])]
  case beq neg x y => rw [one x (fun t ht => by simp [useI, ht]), one y (fun t ht => by simp [useI, ht])]
  case sid x => rw [one x (fun t ht => by simpa [useI] using ht)]
  case un op x => rw [one x (fun t ht => by simpa [useI] using ht)]
  case conv k x => rw [one x (fun t ht => by simpa [useI] using ht)]
  case slc s x lo hi =>
    rw [one x (fun t ht => by simp [useI, ht])]
    congr 1; funext n
    rw [bnds_congr (fun t ht => h t (by simp [useI, ht])) (fun t ht => h t (by simp [useI, ht]))]
  case sls x lo hi =>
    rw [one x (fun t ht => by simp [useI, ht])]
    split
    · rw [bnds_congr (fun t ht => h t (by simp [useI, ht])) (fun t ht => h t (by simp [useI, ht]))]
    · rfl
  case z0 x => rw [one x (fun t ht => by simpa [useI] using ht)]
  case fld off x => rw [one x (fun t ht => by simpa [useI] using ht)]
  case prt ag off n x => rw [one x (fun t ht => by simpa [useI] using ht)]
  case idx s x y => rw [one x (fun t ht => by simp [useI, ht]), one y (fun t ht => by simp [useI, ht])]
  case sidx x y => rw [one x (fun t ht => by simp [useI, ht]), one y (fun t ht => by simp [useI, ht])]
  case ext x i => rw [one x (fun t ht => by simpa [useI] using ht)]
  case len x => rw [one x (fun t ht => by simpa [useI] using ht)]
  case slen x => rw [one x (fun t ht => by simpa [useI] using ht)]
  case app T s x y => rw [one x (fun t ht => by simp [useI, ht]), one y (fun t ht => by simp [useI, ht])]
  case mx x y => rw [one x (fun t ht => by simp [useI, ht]), one y (fun t ht => by simp [useI, ht])]
  case mn x y => rw [one x (fun t ht => by simp [useI, ht]), one y (fun t ht => by simp [useI, ht])]
  case mk T s z x y => rw [one x (fun t ht => by simp [useI, ht]), one y (fun t ht => by simp [useI, ht])]
  case mkfn f caps => rw [map_ev_congr (fun t ht => h t (by simpa [useI] using ht))]
  case call f args =>
    rw [one f (fun t ht => by simp [useI, ht]), map_ev_congr (xs := args) (fun t ht => h t (by simp only [useI, List.mem_append]; exact .inr ht))]

end
end Go.PI
