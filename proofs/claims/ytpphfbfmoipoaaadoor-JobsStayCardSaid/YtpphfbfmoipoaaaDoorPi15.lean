/- A region that draws its order: whatever order the edges allow, it ends as in the order of its text. No condition. -/
import Derived.Test.YtpphfbfmoipoaaaDoorPi14
namespace Go.PI
open Go.RowKit

/- the table of what comes before -/
theorem befs_pre : ∀ (l : List Oper) (acc : List Nat), ∃ R, befs l acc = acc ++ R ∧ R.length = l.length
  | [], acc => ⟨[], by simp [befs]⟩
  | o :: r, acc => by
    obtain ⟨R, h1, h2⟩ := befs_pre r (acc ++ [maskOf acc o.after.toList])
    exact ⟨maskOf acc o.after.toList :: R, by simp only [befs]; rw [h1]; simp, by simp [h2]⟩

theorem befs_at : ∀ (l : List Oper) (acc : List Nat) (j : Nat) (o : Oper), l[j]? = some o → (befs l acc)[acc.length + j]? = some (maskOf ((befs l acc).take (acc.length + j)) o.after.toList)
  | [], acc, j, o, h => by simp at h
  | x :: r, acc, 0, o, h => by
    simp at h; subst h
    obtain ⟨R, h1, h2⟩ := befs_pre r (acc ++ [maskOf acc x.after.toList])
    simp only [befs, Nat.add_zero]
    rw [h1]
    simp
  | x :: r, acc, j + 1, o, h => by
    have := befs_at r (acc ++ [maskOf acc x.after.toList]) j o (by simpa using h)
    simp only [befs]
    simp only [List.length_append, List.length_cons, List.length_nil] at this
    rw [show acc.length + (j + 1) = acc.length + (0 + 1) + j by omega]
    exact this

theorem maskOf_fold (acc : List Nat) (i : Nat) : ∀ (es : List Edge) (s : Nat), (es.foldl (fun s ed => if Region.binds .any ed = true then s ||| 2 ^ ed.on ||| acc.getD ed.on 0 else s) s).testBit i = true →
    s.testBit i = true ∨ ∃ ed ∈ es, Region.binds .any ed = true ∧ (ed.on = i ∨ (acc.getD ed.on 0).testBit i = true)
  | [], s, h => .inl h
  | ed :: r, s, h => by
    simp only [List.foldl_cons] at h
    rcases maskOf_fold acc i r _ h with h | ⟨ed', hm, hb, hh⟩
    · split at h
      · rename_i hb
        rw [Nat.testBit_or, Nat.testBit_or, Nat.testBit_two_pow] at h
        simp only [Bool.or_eq_true, decide_eq_true_eq] at h
        rcases h with (h | h) | h
        · exact .inl h
        · exact .inr ⟨ed, by simp, hb, .inl h⟩
        · exact .inr ⟨ed, by simp, hb, .inr h⟩
      · exact .inl h
    · exact .inr ⟨ed', List.mem_cons_of_mem _ hm, hb, hh⟩

theorem befs_bit {ops : List Oper} {j i : Nat} {o : Oper} (ho : ops[j]? = some o) (h : ((befs ops []).getD j 0).testBit i = true) :
    ∃ ed ∈ o.after.toList, Region.binds .any ed = true ∧ (ed.on = i ∨ ((befs ops []).getD ed.on 0).testBit i = true) := by
  have h1 := befs_at ops [] j o ho
  simp only [List.length_nil, Nat.zero_add] at h1
  rw [List.getD_eq_getElem?_getD, h1] at h
  simp only [Option.getD_some, maskOf] at h
  rcases maskOf_fold _ i _ 0 h with h | ⟨ed, hm, hb, hh⟩
  · simp at h
  · refine ⟨ed, hm, hb, hh.imp id fun hh => ?_⟩
    rw [List.getD_eq_getElem?_getD, List.getElem?_take] at hh
    split at hh
    · rw [List.getD_eq_getElem?_getD]; exact hh
    · simp at hh

/- reading is the same where rows are only added or frozen -/
/- rows that are frozen -/
def frzO : AO → AO
  | .row _ s g es => .fz s g es
  | o => o

theorem frzO_frzO (o : AO) : frzO (frzO o) = frzO o := by cases o <;> rfl

theorem frz_get : ∀ (ids : List Nat) (H : List AO) (k : Nat), (frz ids H)[k]? = if k ∈ ids then (H[k]?).map frzO else H[k]?
  | [], H, k => by simp [frz]
  | i :: r, H, k => by
    have other : (∀ T s g es, H[i]? ≠ some (.row T s g es)) → (H[i]?).map frzO = H[i]? := by
      intro hno
      cases hi : H[i]? with
      | none => rfl
      | some o => cases o with
        | row T s g es => exact absurd hi (hno T s g es)
        | _ => rfl
    by_cases hrow : ∃ T s g es, H[i]? = some (.row T s g es)
    · obtain ⟨T, s, g, es, hi⟩ := hrow
      have e1 : frz (i :: r) H = frz r (H.set i (.fz s g es)) := by simp [frz, hi]
      rw [e1, frz_get r _ k, getElem?_set_eq _ _ _ _ (lt_of_some hi)]
      by_cases hk : k = i
      · subst hk; simp [hi, frzO]
      · simp [hk]
    · have hno : ∀ T s g es, H[i]? ≠ some (.row T s g es) := fun T s g es h => hrow ⟨T, s, g, es, h⟩
      have e1 : frz (i :: r) H = frz r H := by
        cases hi : H[i]? with
        | none => simp [frz, hi]
        | some o => cases o with
          | row T s g es => exact absurd hi (hno T s g es)
          | _ => simp [frz, hi]
      rw [e1, frz_get r H k]
      by_cases hk : k = i
      · subst hk; simp [other hno]
      · simp [hk]

theorem frz_len (ids : List Nat) (H : List AO) : (frz ids H).length = H.length := by
  have h1 : ∀ k : Nat, (frz ids H)[k]? = none ↔ H[k]? = none := by
    intro k; rw [frz_get]; split <;> simp
  apply Nat.le_antisymm
  · have := (h1 H.length).2 (by simp); simpa using this
  · have := (h1 (frz ids H).length).1 (by simp); simpa using this

theorem frz_append {ids : List Nat} {H X : List AO} (h : ∀ id ∈ ids, id < H.length) : frz ids (H ++ X) = frz ids H ++ X := by
  apply List.ext_getElem?
  intro k
  rw [frz_get]
  rcases Nat.lt_or_ge k H.length with hk | hk
  · rw [List.getElem?_append_left hk, List.getElem?_append_left (by rw [frz_len]; exact hk), frz_get]
  · rw [if_neg (fun hm => by have := h k hm; omega), List.getElem?_append_right hk, List.getElem?_append_right (by rw [frz_len]; exact hk), frz_len]

theorem frz_comm (I J : List Nat) (H : List AO) : frz I (frz J H) = frz J (frz I H) := by
  apply List.ext_getElem?
  intro k
  simp only [frz_get]
  by_cases hi : k ∈ I <;> by_cases hj : k ∈ J <;> simp [hi, hj]

theorem frz_set {ids : List Nat} {H : List AO} {i : Nat} {o : AO} (hi : i < H.length) (ho : frzO o = o) : frz ids (H.set i o) = (frz ids H).set i o := by
  apply List.ext_getElem?
  intro k
  rw [frz_get, getElem?_set_eq _ _ _ _ hi, getElem?_set_eq _ _ _ _ (by rw [frz_len]; exact hi), frz_get]
  by_cases hk : k = i
  · subst hk; simp [ho]
  · simp [hk]

theorem rdRow_frz (ids : List Nat) (H : List AO) (id g : Nat) : rdRow (frz ids H) id g = rdRow H id g := by
  unfold rdRow
  rw [frz_get]
  by_cases hm : id ∈ ids
  · rw [if_pos hm]
    cases hi : H[id]? with
    | none => rfl
    | some o => cases o <;> rfl
  · rw [if_neg hm]

theorem rdRow_append {H X : List AO} {id g : Nat} (h : id < H.length) : rdRow (H ++ X) id g = rdRow H id g := by
  unfold rdRow
  rw [List.getElem?_append_left h]

theorem rdRow_fill {H : List AO} {i tag T s : Nat} {z : AV} (hi : H[i]? = some (.rsv tag)) (id g : Nat) : rdRow (H.set i (.box T s z)) id g = rdRow H id g := by
  unfold rdRow
  rw [getElem?_set_eq _ _ _ _ (lt_of_some hi)]
  by_cases hk : id = i
  · subst hk; rw [if_pos rfl, hi]
  · rw [if_neg hk]

theorem rsvIdx_congr {tag : Nat} : ∀ {H H' : List AO}, H.length = H'.length → (∀ (k t : Nat), H[k]? = some (AO.rsv t) ↔ H'[k]? = some (AO.rsv t)) → rsvIdx tag H = rsvIdx tag H'
  | [], [], _, _ => rfl
  | [], _ :: _, h, _ => by cases h
  | _ :: _, [], h, _ => by cases h
  | o :: r, o' :: r', hl, h => by
    have ih := rsvIdx_congr (tag := tag) (H := r) (H' := r') (by simpa using hl) (fun k t => by simpa using h (k + 1) t)
    simp only [rsvIdx, ih]
    have h0 : ∀ t, o = .rsv t ↔ o' = .rsv t := fun t => by simpa using h 0 t
    cases o with
    | rsv t => rw [(h0 t).1 rfl]
    | _ =>
      cases o' with
      | rsv t => exact absurd ((h0 t).2 rfl) (by simp)
      | _ => rfl

theorem rsvIdx_append {tag : Nat} {X : List AO} (hX : ∀ o ∈ X, o.isRsv = false) : ∀ (H : List AO), rsvIdx tag (H ++ X) = rsvIdx tag H
  | [] => by
    induction X with
    | nil => rfl
    | cons o X ih =>
      have h1 := ih (fun q hq => hX q (by simp [hq]))
      simp only [List.nil_append] at h1
      simp only [List.nil_append, rsvIdx, h1]
      cases o with
      | rsv t => have := hX (.rsv t) (by simp); simp [AO.isRsv] at this
      | _ => rfl
  | o :: r => by
    simp only [List.cons_append, rsvIdx, rsvIdx_append hX r]

theorem rsvIdx_frz (tag : Nat) (ids : List Nat) (H : List AO) : rsvIdx tag (frz ids H) = rsvIdx tag H := by
  apply rsvIdx_congr (frz_len ids H)
  intro k t
  rw [frz_get]
  split
  · cases H[k]? with
    | none => simp
    | some o => cases o <;> simp [frzO]
  · exact Iff.rfl

/- what is read stays, where rows are only added or frozen and kept places filled -/
def HSame (H H' : List AO) : Prop := ∀ (id : Nat) (o : AO), H[id]? = some o → ∃ o', H'[id]? = some o' ∧ (o' = o ∨ (∃ T s g es, o = .row T s g es ∧ o' = .fz s g es) ∨ o.isRsv = true)

theorem HSame.refl (H : List AO) : HSame H H := fun _ o h => ⟨o, h, .inl rfl⟩
theorem HSame.push (H X : List AO) : HSame H (H ++ X) := fun id o h => ⟨o, by rw [List.getElem?_append_left (lt_of_some h)]; exact h, .inl rfl⟩
theorem HSame.frz (ids : List Nat) (H : List AO) : HSame H (frz ids H) := by
  intro id o h
  rw [frz_get, h]
  split
  · refine ⟨frzO o, rfl, ?_⟩
    cases o with
    | row T s g es => exact .inr (.inl ⟨T, s, g, es, rfl, rfl⟩)
    | _ => exact .inl rfl
  · exact ⟨o, rfl, .inl rfl⟩
theorem HSame.frzPush (ids : List Nat) (H X : List AO) : HSame H (PI.frz ids H ++ X) := by
  intro id o h
  obtain ⟨o', h1, h2⟩ := HSame.frz ids H id o h
  exact ⟨o', by rw [List.getElem?_append_left (lt_of_some h1)]; exact h1, h2⟩
theorem HSame.fill {H : List AO} {i tag : Nat} (o' : AO) (hi : H[i]? = some (.rsv tag)) : HSame H (H.set i o') := by
  intro id o h
  rw [getElem?_set_eq _ _ _ _ (lt_of_some hi)]
  split
  · rename_i e; subst e; rw [hi] at h; injection h with h; subst h; exact ⟨o', rfl, .inr (.inr rfl)⟩
  · exact ⟨o, h, .inl rfl⟩

/-- the rows that a value leads to at once are there -/
def inSc (H : List AO) : AV → Prop
  | .ref id _ _ _ | .bptr id _ | .rptr id _ _ _ | .mp id | .itr id => ∃ o, H[id]? = some o ∧ o.isRsv = false
  | _ => True

theorem VR.inSc {H : List AO} {ρ : List Value} {F : Nat → Prop} {w : World} {v : AV} {x : Value} (h : VR H ρ F w v x) : PI.inSc H v := by
  cases h with
  | imm h => cases h <;> trivial
  | ref id g o n A c h => obtain ⟨ob, h1, h2, _⟩ := h; exact ⟨ob, h1, h2⟩
  | rptr id g i o x h => obtain ⟨ob, h1, h2, _⟩ := h; exact ⟨ob, h1, h2⟩
  | bptr id o x h => obtain ⟨ob, h1, h2, _⟩ := h; exact ⟨ob, h1, h2⟩
  | mp id b h => obtain ⟨ob, h1, h2, _⟩ := h; exact ⟨ob, h1, h2⟩
  | itr id x _ h => obtain ⟨ob, h1, h2, _⟩ := h; exact ⟨ob, h1, h2⟩
  | agg => trivial
  | tup => trivial
  | fn => trivial

theorem VR.refs0 {H : List AO} {ρ : List Value} {F : Nat → Prop} {w : World} {v : AV} {x : Value} (h : VR H ρ F w v x) : ∀ id ∈ PI.refs0 v, id < H.length := by
  intro id hid
  cases v with
  | ref i g o n =>
    simp [PI.refs0] at hid; subst hid
    obtain ⟨o, ho, _⟩ := h.inSc
    exact lt_of_some ho
  | _ => simp [PI.refs0] at hid

theorem VR.refs1 {H : List AO} {ρ : List Value} {F : Nat → Prop} {w : World} {v : AV} {x : Value} (h : VR H ρ F w v x) : ∀ id ∈ PI.refs1 v, id < H.length := by
  intro id hid
  cases v with
  | agg cs =>
    obtain ⟨us, _, hl, _, hr⟩ := h.agg_inv
    obtain ⟨c, hc, hid⟩ := List.mem_flatMap.1 hid
    obtain ⟨j, hj⟩ := List.getElem?_of_mem hc
    obtain ⟨u, hu⟩ := getElem?_of_len hl hj
    exact (hr j c u hj hu).refs0 id hid
  | fn f cs =>
    obtain ⟨us, _, hl, hr⟩ := h.fn_inv
    obtain ⟨c, hc, hid⟩ := List.mem_flatMap.1 hid
    obtain ⟨j, hj⟩ := List.getElem?_of_mem hc
    obtain ⟨u, hu⟩ := getElem?_of_len hl hj
    exact (hr j c u hj hu).refs0 id hid
  | _ => exact h.refs0 id hid

theorem HSame.get {H H' : List AO} (h : HSame H H') {id : Nat} {o : AO} (ho : H[id]? = some o) (hr : o.isRsv = false) : (∀ g, rdRow H' id g = rdRow H id g) ∧ (∀ T s e, H'[id]? = some (.box T s e) ↔ H[id]? = some (.box T s e)) ∧ (∀ d, H'[id]? = some (.obj d) ↔ H[id]? = some (.obj d)) := by
  obtain ⟨o', h1, h2 | ⟨T, s, g, es, h2, h3⟩ | h2⟩ := h id o ho
  · subst h2; simp [rdRow, ho, h1]
  · subst h2 h3; simp [rdRow, ho, h1]
  · rw [hr] at h2; cases h2

theorem HSame.pelem {H H' : List AO} (h : HSame H H') {p : AV} (hp : inSc H p) : pelem H' p = pelem H p := by
  cases p with
  | bptr id o =>
    obtain ⟨ob, ho, hr⟩ := hp
    obtain ⟨_, h2, _⟩ := h.get ho hr
    simp only [PI.pelem]
    cases hb : H[id]? with
    | none => rw [ho] at hb; cases hb
    | some q =>
      cases q with
      | box T s e => rw [(h2 T s e).2 hb]
      | _ =>
        cases hb' : H'[id]? with
        | none => rfl
        | some q' =>
          cases q' with
          | box T s e => rw [(h2 T s e).1 hb'] at hb; cases hb
          | _ => rfl
  | rptr id g i o =>
    obtain ⟨ob, ho, hr⟩ := hp
    simp only [PI.pelem, (h.get ho hr).1]
  | _ => rfl

theorem rd_scoped {H : List AO} {id g : Nat} {r : Nat × List AV} (h : rdRow H id g = some r) : ∃ o, H[id]? = some o ∧ o.isRsv = false := by
  unfold rdRow at h
  cases ho : H[id]? with
  | none => rw [ho] at h; cases h
  | some o =>
    rw [ho] at h
    cases o <;> first | exact ⟨_, rfl, rfl⟩ | cases h

section
variable {φ : Phi}

/-- an operation that hangs on no row -/
theorem q0_form {op : IOp} (hc : cls op = .q0) (e : Env) : ∃ r : Option AV, ∀ H, aop φ op e H = r.map fun v => (v, H) := by
  cases op <;> simp only [cls, reduceCtorEq] at hc
  case mv x => exact ⟨some (x.ev e), fun H => rfl⟩
  case pick c x y =>
    cases hv : c.ev e with
    | bool t => exact ⟨some (if t then x.ev e else y.ev e), fun H => by simp [aop, hv]⟩
    | _ => exact ⟨none, fun H => by simp [aop, hv]⟩
  case build z ps => exact ⟨(fillParts e z ps).map .agg, fun H => by simp [aop, Function.comp_def]⟩
  case chk x => exact ⟨achk (x.ev e), fun H => rfl⟩
  case bin o x y => exact ⟨abin o (x.ev e) (y.ev e), fun H => rfl⟩
  case aeq neg ks x y =>
    cases hx : x.ev e with
    | agg cs => cases hy : y.ev e with
      | agg ds => exact ⟨(ceqs ks cs ds).map fun b => .bool (b != neg), fun H => by simp [aop, hx, hy, Function.comp_def]⟩
      | _ => exact ⟨none, fun H => by simp [aop, hx, hy]⟩
    | _ => exact ⟨none, fun H => by simp [aop, hx]⟩
  case beq neg x y =>
    cases hx : x.ev e with
    | bool a => cases hy : y.ev e with
      | bool b => exact ⟨some (.bool ((a == b) != neg)), fun H => by simp [aop, hx, hy]⟩
      | _ => exact ⟨none, fun H => by simp [aop, hx, hy]⟩
    | _ => exact ⟨none, fun H => by simp [aop, hx]⟩
  case sid x =>
    cases hx : x.ev e with
    | str l => exact ⟨some (.str l), fun H => by simp [aop, hx]⟩
    | _ => exact ⟨none, fun H => by simp [aop, hx]⟩
  case un o x => exact ⟨aun o (x.ev e), fun H => rfl⟩
  case conv k x =>
    cases hx : x.ev e with
    | int k' n => exact ⟨some (.int k (k.wrap n)), fun H => by simp [aop, hx]⟩
    | _ => exact ⟨none, fun H => by simp [aop, hx]⟩
  case sls x lo hi =>
    cases hx : x.ev e with
    | str l => exact ⟨(bnds e l.length lo hi).map fun lh => .str ((l.drop lh.1).take (lh.2 - lh.1)), fun H => by simp [aop, hx, Function.comp_def]⟩
    | _ => exact ⟨none, fun H => by simp [aop, hx]⟩
  case z0 x => exact ⟨(alen (x.ev e)).map fun _ => .e0, fun H => by simp [aop, Function.comp_def]⟩
  case fld off x => exact ⟨afld off (x.ev e), fun H => rfl⟩
  case prt ag off n x =>
    cases hx : x.ev e with
    | agg cs => exact ⟨part ag off n cs, fun H => by simp [aop, hx]⟩
    | _ => exact ⟨none, fun H => by simp [aop, hx]⟩
  case sidx x i =>
    cases hx : x.ev e with
    | str l => exact ⟨(natOf (i.ev e)).bind fun (i : Nat) => l[i]?.map fun b => .int .u8 (b.toNat : Int), fun H => by simp [aop, hx, Option.map_bind, Function.comp_def]⟩
    | _ => exact ⟨none, fun H => by simp [aop, hx]⟩
  case ext x i =>
    cases hx : x.ev e with
    | tup vs => exact ⟨vs[i]?, fun H => by simp [aop, hx]⟩
    | _ => exact ⟨none, fun H => by simp [aop, hx]⟩
  case len x => exact ⟨(alen (x.ev e)).map fun (n : Nat) => .int .i64 (n : Int), fun H => by simp [aop, Function.comp_def]⟩
  case slen x =>
    cases hx : x.ev e with
    | str l => exact ⟨some (.int .i64 l.length), fun H => by simp [aop, hx]⟩
    | _ => exact ⟨none, fun H => by simp [aop, hx]⟩
  case mx x y =>
    cases hx : x.ev e with
    | int k a => cases hy : y.ev e with
      | int k' b => exact ⟨if k = k' then some (.int k (if a < b then b else a)) else none, fun H => by simp only [aop, hx, hy]; split <;> simp⟩
      | _ => exact ⟨none, fun H => by simp [aop, hx, hy]⟩
    | _ => exact ⟨none, fun H => by simp [aop, hx]⟩
  case mn x y =>
    cases hx : x.ev e with
    | int k a => cases hy : y.ev e with
      | int k' b => exact ⟨if k = k' then some (.int k (if b < a then b else a)) else none, fun H => by simp only [aop, hx, hy]; split <;> simp⟩
      | _ => exact ⟨none, fun H => by simp [aop, hx, hy]⟩
    | _ => exact ⟨none, fun H => by simp [aop, hx]⟩
  case mkfn f caps => exact ⟨some (.fn f (caps.map fun x => x.ev e)), fun H => rfl⟩
  case mkpl s n z ps => exact ⟨if plainE z = true then (fillPl s e (List.replicate n z) ps).map (.sl s) else none, fun H => by simp only [aop]; split <;> simp [Function.comp_def]⟩
  case pix n s x i => exact ⟨(natOf (i.ev e)).bind fun i => if i < n then afld (i * s) (x.ev e) else none, fun H => by
    simp only [aop]; cases natOf (i.ev e) with | none => rfl | some k => simp only [Option.bind_some]; split <;> rfl⟩
  case ait ag n s x i =>
    cases hx : x.ev e with
    | agg cs => exact ⟨(natOf (i.ev e)).bind fun i => if i < n then part ag (i * s) s cs else none, fun H => by
        simp only [aop, hx]; cases natOf (i.ev e) with | none => rfl | some k => simp only [Option.bind_some]; split <;> rfl⟩
    | _ => exact ⟨none, fun H => by simp [aop, hx]⟩

/-- an operation that reads rows -/
structure RdForm (φ : Phi) (op : IOp) (e : Env) (f : List AO → Option AV) : Prop where
  eq : ∀ H, aop φ op e H = (f H).map fun v => (v, H)
  same : ∀ H H', HSame H H' → (∀ x ∈ rdOps op, inSc H (x.ev e)) → f H' = f H
  sc : ∀ H d, f H = some d → ∀ x ∈ rdOps op, inSc H (x.ev e)

theorem pelem_scoped {H : List AO} {p : AV} {r : AV × Nat} (h : pelem H p = some r) : inSc H p := by
  cases p with
  | bptr id o =>
    simp only [pelem] at h
    split at h
    · rename_i hb; exact ⟨_, hb, rfl⟩
    · cases h
  | rptr id g i o =>
    simp only [pelem] at h
    obtain ⟨q, hq, _⟩ := Option.bind_eq_some_iff.1 h
    exact rd_scoped hq
  | ref => cases h
  | mp => cases h
  | itr => cases h
  | _ => trivial

theorem rd_form {op : IOp} (hc : cls op = .rd ∨ cls op = .ix ∨ cls op = .lb) (e : Env) : ∃ f, RdForm φ op e f := by
  cases op <;> simp only [cls, reduceCtorEq, or_self, or_true, true_or] at hc
  case load ag n x =>
    refine ⟨fun H => aload ag n H (x.ev e), fun H => rfl, fun H H' hs hx => ?_, fun H d h y hy => ?_⟩
    · simp only [aload, hs.pelem (hx x (by simp [rdOps]))]
    · simp [rdOps] at hy; subst hy
      obtain ⟨q, hq, _⟩ := Option.bind_eq_some_iff.1 h
      exact pelem_scoped hq
  case slc s x lo hi =>
    refine ⟨fun H => (alen (x.ev e)).bind fun n => (bndc e n (acap H n (x.ev e)) lo hi).bind fun lh => aslc s lh.1 lh.2 H (x.ev e), fun H => ?_, fun H H' hs hx => ?_, fun H d h y hy => ?_⟩
    · simp only [aop]
      cases alen (x.ev e) with
      | none => rfl
      | some n =>
        simp only [Option.bind_some]
        cases bndc e n (acap H n (x.ev e)) lo hi <;> rfl
    · have hx0 := hx x (by simp [rdOps])
      have : ∀ l h, aslc s l h H' (x.ev e) = aslc s l h H (x.ev e) := by
        intro l h
        cases hv : x.ev e with
        | ref id g o n => rw [hv] at hx0; obtain ⟨ob, ho, hr⟩ := hx0; simp only [aslc, (hs.get ho hr).1]
        | _ => rfl
      have this2 : ∀ n, acap H' n (x.ev e) = acap H n (x.ev e) := by
        intro n
        cases hv : x.ev e with
        | ref id g o n => rw [hv] at hx0; obtain ⟨ob, ho, hr⟩ := hx0; simp only [acap, (hs.get ho hr).1]
        | _ => rfl
      simp only [this, this2]
    · simp [rdOps] at hy; subst hy
      obtain ⟨n, _, h⟩ := Option.bind_eq_some_iff.1 h
      obtain ⟨lh, _, h⟩ := Option.bind_eq_some_iff.1 h
      cases hv : y.ev e with
      | ref id g o n => rw [hv] at h; simp only [aslc] at h; obtain ⟨q, hq, _⟩ := Option.bind_eq_some_iff.1 h; exact rd_scoped hq
      | bptr => rw [hv] at h; cases h
      | rptr => rw [hv] at h; cases h
      | mp => rw [hv] at h; cases h
      | itr => rw [hv] at h; cases h
      | _ => trivial
  case idx s x i =>
    refine ⟨fun H => (natOf (i.ev e)).bind fun i => aidx s i H (x.ev e), fun H => ?_, fun H H' hs hx => ?_, fun H d h y hy => ?_⟩
    · simp only [aop]
      cases natOf (i.ev e) <;> rfl
    · have hx0 := hx x (by simp [rdOps])
      have : ∀ k, aidx s k H' (x.ev e) = aidx s k H (x.ev e) := by
        intro k
        cases hv : x.ev e with
        | ref id g o n => rw [hv] at hx0; obtain ⟨ob, ho, hr⟩ := hx0; simp only [aidx, (hs.get ho hr).1]
        | _ => rfl
      simp only [this]
    · simp [rdOps] at hy; subst hy
      obtain ⟨n, _, h⟩ := Option.bind_eq_some_iff.1 h
      cases hv : y.ev e with
      | ref id g o n => rw [hv] at h; simp only [aidx] at h; obtain ⟨q, hq, _⟩ := Option.bind_eq_some_iff.1 h; exact rd_scoped hq
      | bptr => rw [hv] at h; cases h
      | rptr => rw [hv] at h; cases h
      | mp => rw [hv] at h; cases h
      | itr => rw [hv] at h; cases h
      | _ => trivial
  case loadb ag n x =>
    refine ⟨fun H => match x.ev e with
      | .bptr id o => aload ag n H (.bptr id o)
      | .cptr c o => aload ag n H (.cptr c o)
      | _ => none, fun H => ?_, fun H H' hs hx => ?_, fun H d h y hy => ?_⟩
    · simp only [aop]
      cases x.ev e <;> rfl
    · have hx0 := hx x (by simp [rdOps])
      cases hv : x.ev e with
      | bptr id o => rw [hv] at hx0; simp only [aload, hs.pelem hx0]
      | _ => rfl
    · simp [rdOps] at hy; subst hy
      cases hv : y.ev e with
      | bptr id o => simp only [hv] at h; obtain ⟨q, hq, _⟩ := Option.bind_eq_some_iff.1 h; exact pelem_scoped hq
      | cptr => trivial
      | _ => simp only [hv, reduceCtorEq] at h
  case eqnil neg x =>
    refine ⟨fun H => (aeqnil H (x.ev e)).map fun b => .bool (b != neg), fun H => by simp [aop, Function.comp_def], fun H H' hs hx => ?_, fun H d h y hy => ?_⟩
    · have hx0 := hx x (by simp [rdOps])
      have : aeqnil H' (x.ev e) = aeqnil H (x.ev e) := by
        cases hv : x.ev e with
        | ref id g o n =>
          rw [hv] at hx0
          obtain ⟨ob, ho, hr⟩ := hx0
          cases n with
          | zero => rfl
          | succ n => simp only [aeqnil, (hs.get ho hr).1]
        | sl s es => cases es <;> rfl
        | _ => rfl
      simp only [this]
    · simp [rdOps] at hy; subst hy
      obtain ⟨b, hb, _⟩ := Option.map_eq_some_iff.1 h
      cases hv : y.ev e with
      | ref id g o n =>
        rw [hv] at hb
        cases n with
        | zero => cases hb
        | succ n => simp only [aeqnil] at hb; obtain ⟨q, hq, _⟩ := Option.map_eq_some_iff.1 hb; exact rd_scoped hq
      | bptr => rw [hv] at hb; cases hb
      | rptr => rw [hv] at hb; cases hb
      | mp => rw [hv] at hb; cases hb
      | itr => rw [hv] at hb; cases hb
      | _ => trivial
  case b2s x =>
    refine ⟨fun H => (elems H 1 (x.ev e)).bind fun es => (bytesOf es).map .str, fun H => ?_, fun H H' hs hx => ?_, fun H d h y hy => ?_⟩
    · simp only [aop]
      cases elems H 1 (x.ev e) with
      | none => rfl
      | some es => simp only [Option.bind_some]; cases bytesOf es <;> rfl
    · have hx0 := hx x (by simp [rdOps])
      have : elems H' 1 (x.ev e) = elems H 1 (x.ev e) := by
        cases hv : x.ev e with
        | ref id g o n => rw [hv] at hx0; obtain ⟨ob, ho, hr⟩ := hx0; simp only [elems, (hs.get ho hr).1]
        | itr id =>
          rw [hv] at hx0
          obtain ⟨ob, ho, hr⟩ := hx0
          obtain ⟨o', h1, h2 | ⟨T, s, g, es, h2, h3⟩ | h2⟩ := hs id ob ho
          · subst h2; simp [elems, ho, h1]
          · subst h2 h3; simp [elems, ho, h1]
          · rw [hr] at h2; cases h2
        | _ => rfl
      simp only [this]
    · simp [rdOps] at hy; subst hy
      obtain ⟨es, hes, _⟩ := Option.bind_eq_some_iff.1 h
      cases hv : y.ev e with
      | ref id g o n => rw [hv] at hes; simp only [elems] at hes; obtain ⟨q, hq, _⟩ := Option.bind_eq_some_iff.1 hes; exact rd_scoped hq
      | bptr => rw [hv] at hes; cases hes
      | rptr => rw [hv] at hes; cases hes
      | mp => rw [hv] at hes; cases hes
      | itr id =>
        rw [hv] at hes
        simp only [elems] at hes
        split at hes
        · rename_i l ho; exact ⟨_, ho, rfl⟩
        · cases hes
      | _ => trivial

end

section
variable {φ : Phi}
/- only the slots that are used matter -/
theorem ev_congr {e e' : Env} {x : OP} (h : ∀ t ∈ opTmps x, e.get t = e'.get t) : x.ev e = x.ev e' := by
  cases x with
  | t i => exact h i (by simp [opTmps])
  | c v => rfl
theorem map_ev_congr {e e' : Env} {xs : List OP} (h : ∀ t ∈ xs.flatMap opTmps, e.get t = e'.get t) : xs.map (fun x => x.ev e) = xs.map (fun x => x.ev e') := by
  apply List.map_congr_left
  intro x hx
  exact ev_congr fun t ht => h t (List.mem_flatMap.2 ⟨x, hx, ht⟩)
theorem bndc_congr {e e' : Env} {n c : Nat} {lo hi : Option OP} (h1 : ∀ t ∈ optTmps lo, e.get t = e'.get t) (h2 : ∀ t ∈ optTmps hi, e.get t = e'.get t) : bndc e n c lo hi = bndc e' n c lo hi := by
  unfold bndc
  cases lo with
  | none =>
    cases hi with
    | none => rfl
    | some y => simp only [ev_congr (e := e) (e' := e') (x := y) h2]
  | some x =>
    cases hi with
    | none => simp only [ev_congr (e := e) (e' := e') (x := x) h1]
    | some y => simp only [ev_congr (e := e) (e' := e') (x := x) h1, ev_congr (e := e) (e' := e') (x := y) h2]
theorem bnds_congr {e e' : Env} {n : Nat} {lo hi : Option OP} (h1 : ∀ t ∈ optTmps lo, e.get t = e'.get t) (h2 : ∀ t ∈ optTmps hi, e.get t = e'.get t) : bnds e n lo hi = bnds e' n lo hi := by
  unfold bnds
  cases lo with
  | none =>
    cases hi with
    | none => rfl
    | some y => simp only [ev_congr (e := e) (e' := e') (x := y) h2]
  | some x =>
    cases hi with
    | none => simp only [ev_congr (e := e) (e' := e') (x := x) h1]
    | some y => simp only [ev_congr (e := e) (e' := e') (x := x) h1, ev_congr (e := e) (e' := e') (x := y) h2]
theorem fillParts_congr {e e' : Env} : ∀ (ps : List (Nat × Nat × OP)) (cs : List AV), (∀ t ∈ ps.flatMap (fun p => opTmps p.2.2), e.get t = e'.get t) → fillParts e cs ps = fillParts e' cs ps
  | [], cs, _ => rfl
  | (o, s, x) :: r, cs, h => by
    have hx : x.ev e = x.ev e' := ev_congr fun t ht => h t (by simp [ht])
    simp only [fillParts, hx]
    split
    · exact fillParts_congr r _ fun t ht => h t (by simp at ht ⊢; exact .inr ht)
    · rfl
theorem fillRow_congr {e e' : Env} {s : Nat} {H : List AO} : ∀ (ps : List (Nat × OP)) (es : List AV), (∀ t ∈ ps.flatMap (fun p => opTmps p.2), e.get t = e'.get t) → fillRow s e H es ps = fillRow s e' H es ps ∧ rowRefs e ps = rowRefs e' ps
  | [], es, _ => ⟨rfl, rfl⟩
  | (i, x) :: r, es, h => by
    have hx : x.ev e = x.ev e' := ev_congr fun t ht => h t (by simp [ht])
    have ih := fun es => fillRow_congr (e := e) (e' := e') (s := s) (H := H) r es fun t ht => h t (by simp at ht ⊢; exact .inr ht)
    simp only [fillRow, rowRefs, hx]
    refine ⟨?_, by rw [(ih es).2]⟩
    split
    · exact (ih _).1
    · rfl

theorem fillPl_congr {e e' : Env} {s : Nat} : ∀ (ps : List (Nat × OP)) (es : List AV), (∀ t ∈ ps.flatMap (fun p => opTmps p.2), e.get t = e'.get t) → fillPl s e es ps = fillPl s e' es ps
  | [], es, _ => rfl
  | (k, x) :: r, es, h => by
    simp only [fillPl]
    rw [ev_congr (x := x) (e := e) (e' := e') (fun t ht => h t (by simp [ht]))]
    split
    · exact fillPl_congr r _ (fun t ht => h t (by simp only [List.flatMap_cons, List.mem_append]; exact .inr ht))
    · rfl

theorem bnd1_congr {e e' : Env} {d : Nat} {x : Option OP} (h : ∀ t ∈ optTmps x, e.get t = e'.get t) : bnd1 e d x = bnd1 e' d x := by
  cases x with
  | none => rfl
  | some x => simp only [bnd1]; rw [ev_congr (x := x) (e := e) (e' := e') h]

theorem aop_congr {op : IOp} {e e' : Env} {H : List AO} (h : ∀ t ∈ useI op, e.get t = e'.get t) : aop φ op e H = aop φ op e' H := by
  have one : ∀ x : OP, (∀ t ∈ opTmps x, t ∈ useI op) → x.ev e = x.ev e' := fun x hx => ev_congr fun t ht => h t (hx t ht)
  cases op <;> simp only [aop]
  case mv x => rw [one x (fun t ht => by simpa [useI] using ht)]
  case pick c x y => rw [one c (fun t ht => by simp [useI, ht]), one x (fun t ht => by simp [useI, ht]), one y (fun t ht => by simp [useI, ht])]
  case box T s x => rw [one x (fun t ht => by simpa [useI] using ht)]
  case build z ps => rw [fillParts_congr ps z (fun t ht => h t (by simpa [useI] using ht))]
  case mkrow T s n z ps =>
    obtain ⟨h1, h2⟩ := fillRow_congr (e := e) (e' := e') (s := s) (H := H) ps (List.replicate n z) (fun t ht => h t (by simpa [useI] using ht))
    rw [h1, h2]
  case mkimm s n z ps =>
    obtain ⟨h1, h2⟩ := fillRow_congr (e := e) (e' := e') (s := s) (H := H) ps (List.replicate n z) (fun t ht => h t (by simpa [useI] using ht))
    rw [h1, h2]
  case load ag n x => rw [one x (fun t ht => by simpa [useI] using ht)]
  case store n x y => rw [one x (fun t ht => by simp [useI, ht]), one y (fun t ht => by simp [useI, ht])]
  case chk x => rw [one x (fun t ht => by simpa [useI] using ht)]
  case bin op x y => rw [one x (fun t ht => by simp [useI, ht]), one y (fun t ht => by simp [useI, ht])]
  case aeq neg ks x y => rw [one x (fun t ht => by simp [useI, ht]), one y (fun t ht => by simp [useI, ht])]
  case beq neg x y => rw [one x (fun t ht => by simp [useI, ht]), one y (fun t ht => by simp [useI, ht])]
  case sid x => rw [one x (fun t ht => by simpa [useI] using ht)]
  case un op x => rw [one x (fun t ht => by simpa [useI] using ht)]
  case conv k x => rw [one x (fun t ht => by simpa [useI] using ht)]
  case slc s x lo hi =>
    rw [one x (fun t ht => by simp [useI, ht])]
    congr 1; funext n
    rw [bndc_congr (fun t ht => h t (by simp [useI, ht])) (fun t ht => h t (by simp [useI, ht]))]
  case sls x lo hi =>
    rw [one x (fun t ht => by simp [useI, ht])]
    split
    · rw [bnds_congr (fun t ht => h t (by simp [useI, ht])) (fun t ht => h t (by simp [useI, ht]))]
    · rfl
  case z0 x => rw [one x (fun t ht => by simpa [useI] using ht)]
  case fld off x => rw [one x (fun t ht => by simpa [useI] using ht)]
  case prt ag off n x => rw [one x (fun t ht => by simpa [useI] using ht)]
  case idx s x y => rw [one x (fun t ht => by simp [useI, ht]), one y (fun t ht => by simp [useI, ht])]
  case sidx x y => rw [one x (fun t ht => by simp [useI, ht]), one y (fun t ht => by simp [useI, ht])]
  case ext x i => rw [one x (fun t ht => by simpa [useI] using ht)]
  case len x => rw [one x (fun t ht => by simpa [useI] using ht)]
  case slen x => rw [one x (fun t ht => by simpa [useI] using ht)]
  case app T s x y => rw [one x (fun t ht => by simp [useI, ht]), one y (fun t ht => by simp [useI, ht])]
  case mx x y => rw [one x (fun t ht => by simp [useI, ht]), one y (fun t ht => by simp [useI, ht])]
  case mn x y => rw [one x (fun t ht => by simp [useI, ht]), one y (fun t ht => by simp [useI, ht])]
  case mk T s z x y => rw [one x (fun t ht => by simp [useI, ht]), one y (fun t ht => by simp [useI, ht])]
  case mkfn f caps => rw [map_ev_congr (fun t ht => h t (by simpa [useI] using ht))]
  case call f args =>
    rw [one f (fun t ht => by simp [useI, ht]), map_ev_congr (xs := args) (fun t ht => h t (by simp only [useI, List.mem_append]; exact .inr ht))]
  case loadb ag n x => rw [one x (fun t ht => by simpa [useI] using ht)]
  case loadr ag n x => rw [one x (fun t ht => by simpa [useI] using ht)]
  case idxr s x y => rw [one x (fun t ht => by simp [useI, ht]), one y (fun t ht => by simp [useI, ht])]
  case storek n x y => rw [one x (fun t ht => by simp [useI, ht]), one y (fun t ht => by simp [useI, ht])]
  case storer n x y => rw [one x (fun t ht => by simp [useI, ht]), one y (fun t ht => by simp [useI, ht])]
  case mkpl s n z ps => rw [fillPl_congr ps (List.replicate n z) (fun t ht => h t (by simpa [useI] using ht))]
  case eqnil neg x => rw [one x (fun t ht => by simpa [useI] using ht)]
  case pix n s x y => rw [one x (fun t ht => by simp [useI, ht]), one y (fun t ht => by simp [useI, ht])]
  case ait ag n s x y => rw [one x (fun t ht => by simp [useI, ht]), one y (fun t ht => by simp [useI, ht])]
  case mlook ok z x y => rw [one x (fun t ht => by simp [useI, ht]), one y (fun t ht => by simp [useI, ht])]
  case mput x y z => rw [one x (fun t ht => by simp [useI, ht]), one y (fun t ht => by simp [useI, ht]), one z (fun t ht => by simp [useI, ht])]
  case rstr x => rw [one x (fun t ht => by simpa [useI] using ht)]
  case s2b x => rw [one x (fun t ht => by simpa [useI] using ht)]
  case nstr x => rw [one x (fun t ht => by simpa [useI] using ht)]
  case b2s x => rw [one x (fun t ht => by simpa [useI] using ht)]
  case clr s z x => rw [one x (fun t ht => by simpa [useI] using ht)]
  case cpy s x y => rw [one x (fun t ht => by simp [useI, ht]), one y (fun t ht => by simp [useI, ht])]
  case slc3 x lo hi mx =>
    rw [one x (fun t ht => by simp [useI, ht])]
    split
    · rfl
    congr 1; funext n
    rw [bnd1_congr (fun t ht => h t (by simp [useI, ht]))]
    congr 1; funext m
    rw [bnd1_congr (fun t ht => h t (by simp [useI, ht]))]
    congr 1; funext k
    rw [bnd1_congr (fun t ht => h t (by simp [useI, ht]))]
  case callr f args =>
    rw [one f (fun t ht => by simp [useI, ht]), map_ev_congr (xs := args) (fun t ht => h t (by simp only [useI, List.mem_append]; exact .inr ht))]
  case ocallc f args =>
    rw [one f (fun t ht => by simp [useI, ht]), map_ev_congr (xs := args) (fun t ht => h t (by simp only [useI, List.mem_append]; exact .inr ht))]
  case ocall f args =>
    rw [one f (fun t ht => by simp [useI, ht]), map_ev_congr (xs := args) (fun t ht => h t (by simp only [useI, List.mem_append]; exact .inr ht))]

end
end Go.PI
