/- Two operations that may change places: in either order they come to the same. No condition. -/
import Derived.Test.YtpphfbfmoipoaaaDoorPi15
namespace Go.PI
open Go.RowKit

section
variable {φ : Phi}

theorem conv0_heap {H H' : List AO} {v : AV} (h : ∀ id g, id ∈ refs0 v → rdRow H' id g = rdRow H id g) : conv0 H' v = conv0 H v := by
  cases v with
  | ref id g o n => simp only [conv0, h id g (by simp [refs0])]
  | fn f cs => cases cs <;> rfl
  | _ => rfl

theorem conv1_heap {H H' : List AO} {v : AV} (h : ∀ id g, id ∈ refs1 v → rdRow H' id g = rdRow H id g) : conv1 H' v = conv1 H v := by
  cases v with
  | agg cs =>
    simp only [conv1]
    congr 1
    exact List.map_congr_left (fun c hc => conv0_heap (fun id g hid => h id g (List.mem_flatMap.2 ⟨c, hc, hid⟩)))
  | fn f cs =>
    simp only [conv1]
    congr 1
    exact List.map_congr_left (fun c hc => conv0_heap (fun id g hid => h id g (List.mem_flatMap.2 ⟨c, hc, hid⟩)))
  | ref id g o n => exact conv0_heap (v := .ref id g o n) (fun i k hi => h i k hi)
  | _ => rfl

theorem fillRow_heap {s : Nat} {e : Env} {H H' : List AO} : ∀ (ps : List (Nat × OP)) (es : List AV), (∀ id g, id ∈ rowRefs e ps → rdRow H' id g = rdRow H id g) → fillRow s e H' es ps = fillRow s e H es ps
  | [], es, _ => rfl
  | (i, x) :: r, es, h => by
    simp only [fillRow]
    rw [conv1_heap (H := H) (H' := H') (v := x.ev e) (fun id g hid => h id g (by simp [rowRefs, hid]))]
    split
    · exact fillRow_heap r _ (fun id g hid => h id g (by simp [rowRefs, hid]))
    · rfl

/-- an operation that freezes -/
theorem fz_form {op : IOp} (hc : cls op = .fz) {e : Env} {H H1 : List AO} {v : AV} (h : aop φ op e H = some (v, H1)) :
    ∃ ids, (∃ ps : List (Nat × OP), ids = rowRefs e ps ∧ (∀ p ∈ ps, p.2 ∈ rdOps op)) ∧ H1 = frz ids H ∧ ∀ H', (∀ id g, id ∈ ids → rdRow H' id g = rdRow H id g) → aop φ op e H' = some (v, frz ids H') := by
  cases op <;> simp only [cls, reduceCtorEq] at hc
  case mkimm s n z ps =>
    simp only [aop] at h
    obtain ⟨es, hes, h⟩ := Option.map_eq_some_iff.1 h
    simp only [Prod.mk.injEq] at h
    obtain ⟨rfl, rfl⟩ := h
    refine ⟨rowRefs e ps, ⟨ps, rfl, fun p hp => by simp only [rdOps]; exact List.mem_map.2 ⟨p, hp, rfl⟩⟩, rfl, fun H' hr => ?_⟩
    simp only [aop]
    rw [fillRow_heap ps _ hr, hes]
    rfl

/-- an operation that lays new rows -/
theorem pu_form {P : Program} {C : Cfg} (hφ : PhiOk C P φ) {op : IOp} (hc : cls op = .pu) {e : Env} {H H1 : List AO} {v : AV} (h : aop φ op e H = some (v, H1)) :
    ∃ ids X, (∀ o ∈ X, o.isRsv = false) ∧ H1 = frz ids H ++ X ∧
      ∀ H', H'.length = H.length → (∀ id g, rdRow H' id g = rdRow H id g) → aop φ op e H' = some (v, frz ids H' ++ X) := by
  cases op <;> simp only [cls, reduceCtorEq] at hc
  case nilrow T s =>
    simp only [aop, Option.some.injEq, Prod.mk.injEq] at h
    obtain ⟨rfl, rfl⟩ := h
    exact ⟨[], [.row T s 0 []], by simp [AO.isRsv], rfl, fun H' hl _ => by simp [aop, hl, frz]⟩
  case new T s z =>
    simp only [aop] at h
    split at h
    · rename_i hz
      simp only [Option.some.injEq, Prod.mk.injEq] at h
      obtain ⟨rfl, rfl⟩ := h
      exact ⟨[], [.box T s z], by simp [AO.isRsv], rfl, fun H' hl _ => by simp [aop, hl, hz, frz]⟩
    · cases h
  case box T s x =>
    simp only [aop] at h
    split at h
    · rename_i hz
      simp only [Option.some.injEq, Prod.mk.injEq] at h
      obtain ⟨rfl, rfl⟩ := h
      exact ⟨[], [.box T s (x.ev e)], by simp [AO.isRsv], rfl, fun H' hl _ => by simp [aop, hl, hz, frz]⟩
    · cases h
  case mkrow T s n z ps =>
    simp only [aop] at h
    obtain ⟨es, hes, h⟩ := Option.map_eq_some_iff.1 h
    simp only [Prod.mk.injEq] at h
    obtain ⟨rfl, rfl⟩ := h
    refine ⟨rowRefs e ps, [.row T s 0 es], by simp [AO.isRsv], rfl, fun H' hl hr => ?_⟩
    simp only [aop]
    rw [fillRow_heap ps _ (fun id g _ => hr id g), hes, hl]
    rfl
  case mk T s z n c =>
    simp only [aop] at h
    obtain ⟨n', hn, h⟩ := Option.bind_eq_some_iff.1 h
    obtain ⟨c', hc', h⟩ := Option.bind_eq_some_iff.1 h
    split at h
    · rename_i hz
      simp only [Option.some.injEq, Prod.mk.injEq] at h
      obtain ⟨rfl, rfl⟩ := h
      exact ⟨[], [.row T s 0 (List.replicate n' z)], by simp [AO.isRsv], rfl, fun H' hl _ => by simp [aop, hl, hn, hc', hz, frz]⟩
    · cases h
  case mkmap =>
    simp only [aop, Option.some.injEq, Prod.mk.injEq] at h
    obtain ⟨rfl, rfl⟩ := h
    exact ⟨[], [.obj (.mp [])], by simp [AO.isRsv], rfl, fun H' hl _ => by simp [aop, hl, frz]⟩
  case s2b x =>
    simp only [aop] at h
    split at h
    · rename_i l hl0
      split at h
      · rename_i hm
        simp only [Option.some.injEq, Prod.mk.injEq] at h
        obtain ⟨rfl, rfl⟩ := h
        exact ⟨[], [.obj (.bb l)], by simp [AO.isRsv], rfl, fun H' hl _ => by simp [aop, hl, hl0, hm, frz]⟩
      · cases h
    · cases h
  case rstr x =>
    simp only [aop] at h
    split at h
    · rename_i l hl0
      simp only [Option.some.injEq, Prod.mk.injEq] at h
      obtain ⟨rfl, rfl⟩ := h
      exact ⟨[], [.obj (.it l 0)], by simp [AO.isRsv], rfl, fun H' hl _ => by simp [aop, hl, hl0, frz]⟩
    · cases h
  case call fo args =>
    simp only [aop] at h
    split at h
    · rename_i f caps hf
      obtain ⟨r, hr, h⟩ := Option.map_eq_some_iff.1 h
      have hrow : ∀ o ∈ r.2, o.isRsv = false := by
        obtain ⟨res, rows⟩ := r
        intro o ho
        have := (hφ.cl _ _ _ _ hr).1.1 o ho
        cases o <;> first | rfl | simp [AO.isRow] at this
      have same : ∀ H', (∀ id g, rdRow H' id g = rdRow H id g) → (args.map (fun x => x.ev e) ++ caps).map (conv1 H') = (args.map (fun x => x.ev e) ++ caps).map (conv1 H) :=
        fun H' h' => List.map_congr_left (fun v _ => conv1_heap (fun id g _ => h' id g))
      split at h
      · rename_i hpl
        simp only [Prod.mk.injEq] at h
        obtain ⟨rfl, rfl⟩ := h
        refine ⟨[], [], by simp, by simp [frz], fun H' hl h' => ?_⟩
        simp only [aop, hf]
        rw [same H' h', hr]
        simp only [Option.map_some]
        rw [if_pos hpl]
        simp [frz]
      · rename_i hpl
        simp only [Prod.mk.injEq] at h
        obtain ⟨rfl, rfl⟩ := h
        refine ⟨(args.map (fun x => x.ev e) ++ caps).flatMap refs1, r.2, hrow, rfl, fun H' hl h' => ?_⟩
        simp only [aop, hf]
        rw [same H' h', hr, hl]
        simp only [Option.map_some]
        rw [if_neg hpl]
    · cases h

/-- a place that was kept is filled -/
theorem na_form {op : IOp} (hc : cls op = .na) {e : Env} {H H1 : List AO} {v : AV} (h : aop φ op e H = some (v, H1)) :
    ∃ tag T s z i, op = .newAt tag T s z ∧ rsvIdx tag H = some i ∧ H1 = H.set i (.box T s z) ∧ v = .bptr i 0 ∧ ∀ H', rsvIdx tag H' = some i → aop φ op e H' = some (v, H'.set i (.box T s z)) := by
  cases op <;> simp only [cls, reduceCtorEq] at hc
  case newAt tag T s z =>
    simp only [aop] at h
    split at h
    · rename_i hz
      obtain ⟨i, hi, h⟩ := Option.map_eq_some_iff.1 h
      simp only [Prod.mk.injEq] at h
      obtain ⟨rfl, rfl⟩ := h
      exact ⟨tag, T, s, z, i, rfl, hi, rfl, rfl, fun H' h' => by simp [aop, hz, h']⟩
    · cases h

/-- a store keeps what an index looks at -/
theorem store_rd {n : Nat} {H H' : List AO} {p v : AV} (h : astore n H p v = some H') (id g : Nat) : (rdRow H' id g).map (·.1) = (rdRow H id g).map (·.1) := by
  cases p with
  | bptr i o =>
    simp only [astore] at h
    split at h
    · rename_i T s e hb
      split at h
      · injection h with h; subst h
        unfold rdRow
        rw [getElem?_set_eq _ _ _ _ (lt_of_some hb)]
        by_cases hk : id = i
        · subst hk; rw [if_pos rfl, hb]
        · rw [if_neg hk]
      · cases h
    · cases h
  | rptr i g' k o =>
    simp only [astore] at h
    split at h
    · rename_i T s g2 es hb
      split at h
      · rename_i hg; subst hg
        split at h
        · split at h
          · injection h with h; subst h
            rw [← rdRow_frz (refs1 v) H id g]
            unfold rdRow
            rw [getElem?_set_eq _ _ _ _ (lt_of_some hb)]
            by_cases hk : id = i
            · subst hk
              rw [if_pos rfl, hb]
              simp only
              split <;> rfl
            · rw [if_neg hk]
          · cases h
        · cases h
      · cases h
    · cases h
  | _ => cases h

theorem idx_store {n s k : Nat} {H H' : List AO} {p v x : AV} (h : astore n H p v = some H') : aidx s k H' x = aidx s k H x := by
  cases x with
  | ref id g o m =>
    have := store_rd h id g
    simp only [aidx]
    cases h1 : rdRow H id g with
    | none => rw [h1] at this; cases h2 : rdRow H' id g with
      | none => rfl
      | some r => rw [h2] at this; cases this
    | some r => rw [h1] at this; cases h2 : rdRow H' id g with
      | none => rw [h2] at this; cases this
      | some r' =>
        rw [h2] at this
        simp at this
        simp [this]
  | _ => rfl

/-- a store into a row keeps variables -/
theorem storer_box {n : Nat} {H H' : List AO} {i g k o : Nat} {v : AV} (h : astore n H (.rptr i g k o) v = some H') (id : Nat) (T s : Nat) (e : AV) : H'[id]? = some (.box T s e) ↔ H[id]? = some (.box T s e) := by
  have fr : ∀ q : Nat, (frz (refs1 v) H)[q]? = some (.box T s e) ↔ H[q]? = some (.box T s e) := by
    intro q
    rw [frz_get]
    split
    · cases H[q]? with
      | none => simp
      | some o => cases o <;> simp [frzO]
    · exact Iff.rfl
  simp only [astore] at h
  split at h
  · rename_i T' s' g2 es hb
    split at h
    · rename_i hg; subst hg
      split at h
      · split at h
        · injection h with h; subst h
          rw [getElem?_set_eq _ _ _ _ (lt_of_some hb)]
          by_cases hk : id = i
          · subst hk
            rw [if_pos rfl]
            constructor
            · intro hh; injection hh with hh; cases hh
            · intro hh
              have := (fr id).2 hh
              rw [hb] at this; injection this with this; cases this
          · rw [if_neg hk]; exact fr id
        · cases h
      · cases h
    · cases h
  · cases h

theorem app_box0 {T0 s0 : Nat} {H H' : List AO} {x d : AV} {news : List AV} (h : aapp0 T0 s0 H x news = some (d, H')) (id : Nat) (T s : Nat) (e : AV) : H'[id]? = some (.box T s e) ↔ H[id]? = some (.box T s e) := by
  cases x with
  | e0 =>
    simp only [aapp0] at h
    split at h
    · split at h
      · simp only [Option.some.injEq, Prod.mk.injEq] at h; obtain ⟨_, rfl⟩ := h; exact Iff.rfl
      · simp only [Option.some.injEq, Prod.mk.injEq] at h
        obtain ⟨_, rfl⟩ := h
        rw [getElem?_snoc]
        split
        · rename_i hi; subst hi; simp
        · exact Iff.rfl
    · cases h
  | ref i g o n =>
    simp only [aapp0] at h
    split at h
    · rename_i T' s' g' es hb
      split at h
      · simp only [Option.some.injEq, Prod.mk.injEq] at h
        obtain ⟨_, rfl⟩ := h
        rw [getElem?_set_eq _ _ _ _ (lt_of_some hb)]
        by_cases hk : id = i
        · subst hk; rw [if_pos rfl, hb]; simp
        · rw [if_neg hk]
      · cases h
    · cases h
  | _ => cases h

theorem app_box {T0 s0 : Nat} {H H' : List AO} {x d : AV} {news : List AV} (h : aapp T0 s0 H x news = some (d, H')) (id : Nat) (T s : Nat) (e : AV) : H'[id]? = some (.box T s e) ↔ H[id]? = some (.box T s e) := by
  unfold aapp at h
  split at h
  · rename_i r hr
    injection h with h; subst h
    exact app_box0 hr id T s e
  · cases x with
    | ref i g o n =>
      simp only [aappIn] at h
      split at h
      · rename_i T' s' g' es hb
        split at h
        · simp only [Option.some.injEq, Prod.mk.injEq] at h
          obtain ⟨_, rfl⟩ := h
          rw [getElem?_set_eq _ _ _ _ (lt_of_some hb)]
          by_cases hk : id = i
          · subst hk; rw [if_pos rfl, hb]; simp
          · rw [if_neg hk]
        · cases h
      · cases h
    | _ => cases h

/-- what is read of a variable hangs on the variable alone -/
theorem lb_box {op : IOp} (hc : cls op = .lb) {e : Env} {H H' : List AO} (hb : ∀ (id T s : Nat) (el : AV), H'[id]? = some (AO.box T s el) ↔ H[id]? = some (AO.box T s el)) {v : AV} {H1 : List AO} (h : aop φ op e H = some (v, H1)) : H1 = H ∧ aop φ op e H' = some (v, H') := by
  cases op <;> simp only [cls, reduceCtorEq] at hc
  case loadb ag n x =>
    simp only [aop] at h ⊢
    split at h
    · rename_i id o hv
      obtain ⟨u, hu, h⟩ := Option.map_eq_some_iff.1 h
      simp only [Prod.mk.injEq] at h
      obtain ⟨rfl, rfl⟩ := h
      refine ⟨rfl, ?_⟩
      simp only [aload, pelem] at hu ⊢
      split at hu
      · rename_i T s el hbx
        rw [(hb id T s el).2 hbx]
        simp only
        rw [hu]; rfl
      · cases hu
    · rename_i c o hv
      obtain ⟨u, hu, h⟩ := Option.map_eq_some_iff.1 h
      simp only [Prod.mk.injEq] at h
      obtain ⟨rfl, rfl⟩ := h
      refine ⟨rfl, ?_⟩
      have : aload ag n H' (.cptr c o) = aload ag n H (.cptr c o) := rfl
      rw [this, hu]; rfl
    · cases h
end
end Go.PI
