/- Rows whose elements hold slices of rows of the frame ('rr'): reading, indexing, storing: what the interpreter says is what the model does. No condition. -/
import Derived.Test.YtpphfbfmoipoaaaDoorPi9
namespace Go.PI
open Go.RowKit

section
variable {P : Program} {C : Cfg} {B N : Nat} {F F' : Nat → Prop} {H H' : List AO} {ρ ρ' : List Value} {w w' : World} {x y : Value}

theorem rdO_rep (hp : HeapRep B F H ρ w) {id g T s : Nat} {es : List AV} (h : rdO H id g = some (T, s, es)) :
    ∃ ob v us, H[id]? = some ob ∧ ob.own = true ∧ ob.isRsv = false ∧ ob.view = some (s, g, es.length) ∧ RRep B H ρ F w id T s es v us := by
  unfold rdO at h
  split at h
  · rename_i hob
    split at h
    · rename_i hg
      subst hg
      simp only [Option.some.injEq, Prod.mk.injEq] at h
      obtain ⟨rfl, rfl, rfl⟩ := h
      obtain ⟨v, us, R⟩ := hp.row _ _ _ _ _ hob
      exact ⟨_, v, us, hob, rfl, rfl, rfl, R.at_, R.own, R.pos, R.cells, R.one, fun j c u hc hu => .imm (R.rel j c u hc hu), R.free⟩
    · cases h
  · rename_i hob
    split at h
    · rename_i hg
      subst hg
      simp only [Option.some.injEq, Prod.mk.injEq] at h
      obtain ⟨rfl, rfl, rfl⟩ := h
      obtain ⟨v, us, R⟩ := hp.rr _ _ _ _ _ hob
      exact ⟨_, v, us, hob, rfl, rfl, rfl, R⟩
    · cases h
  · cases h

theorem pelemR_ok (hp : HeapRep B F H ρ w) {p : AV} {el : AV} {o : Nat} (h : VR H ρ F w p x) (hpe : pelemR H p = some (el, o)) :
    ∃ (ad : Addr) (us : List Value), x = .pointer (some ad) ∧ el.cells.length = us.length ∧ (∀ u ∈ us, u.oneCell' = true) ∧
      (∀ (j : Nat) (u : Value), us[o + j]? = some u → w.cell? (ad.add j) = some u) ∧ ∀ (j : Nat) (c : AV) (u : Value), el.cells[j]? = some c → us[j]? = some u → VR H ρ F w c u := by
  unfold pelemR at hpe
  split at hpe
  · rename_i id g i o0
    split at hpe
    · rename_i r hr
      obtain ⟨T, s, es⟩ := r
      obtain ⟨el0, hi, hpe⟩ := Option.map_eq_some_iff.1 hpe
      simp only [Prod.mk.injEq] at hpe
      obtain ⟨rfl, rfl⟩ := hpe
      simp only at hi
      obtain ⟨ob, v, us, hob, _, hrs, hvw, R⟩ := rdO_rep hp hr
      obtain ⟨ad, rfl, ob', hob', _, hv⟩ := h.rptr_inv
      have : ob' = ob := by have := hob'.symm.trans hob; simpa using this
      subst this
      obtain ⟨_, v0, hv0, ad0, Nn, cap, rfl, hiN, hx⟩ := (hv s g es.length hvw).2 rfl
      injection hx with hx; injection hx with hx; subst hx
      have hmem := List.mem_of_getElem? hi
      have : v = .slice (some ad0) Nn cap := by have := R.at_.symm.trans hv0; simpa using this
      subst this
      obtain ⟨b, rfl⟩ : ∃ b, ad0 = ⟨b, 0, none⟩ := by
        rcases R.own.2 with ⟨hnil, _⟩ | ⟨gb, cap', cur, hvv, _⟩
        · cases hnil
        · injection hvv with q1; injection q1 with q1; exact ⟨gb, q1⟩
      have cut : ((us.drop (i * s)).take s).length = s := by
        rw [List.length_take, List.length_drop, R.own.1, Nat.min_eq_left]
        have := Nat.mul_le_mul_right s (Nat.succ_le_of_lt (lt_of_some hi))
        rw [Nat.succ_mul] at this; omega
      refine ⟨_, (us.drop (i * s)).take s, rfl, by rw [R.cells _ hmem, cut], fun u hu => R.one u (mem_of_sub hu), fun j u hu => ?_, fun j c u hc hu => ?_⟩
      · have := R.own.cells (g := b) rfl _ u (getElem?_sub _ _ _ _ hu).2
        rw [add_add']
        rw [← this]; congr 2; omega
      · obtain ⟨hj, hu'⟩ := getElem?_sub _ _ _ _ hu
        exact R.rel _ c u (by rw [flat_get R.cells hi hj]; exact hc) hu'
    · exact pelem_ok hp h hpe
  · exact pelem_ok hp h hpe

theorem loadR_ok (hp : HeapRep B F H ρ w) {t : TypeId} {s : Nat × Bool} (ht : tySize P t = some s) {p d : AV} (h : VR H ρ F w p x) (hl : aloadR s.2 s.1 H p = some d) :
    ∃ v, (Instr.loadAt t x).run P w = .ok v w ∧ VR H ρ F w d v := by
  unfold aloadR at hl
  cases hpe : pelemR H p with
  | none => rw [hpe] at hl; cases hl
  | some r =>
    obtain ⟨el, o⟩ := r
    rw [hpe] at hl
    simp only [Option.bind_some] at hl
    obtain ⟨ad, us, rfl, h1, h2, h3, h4⟩ := pelemR_ok hp h hpe
    obtain ⟨i, dd, hi, hd, hsz, hag⟩ := tySize_spec ht
    have hpart := part_ok h1 h2 h4 hl
    obtain ⟨sz, ag⟩ := s
    simp only at hsz hag hpart hl
    have hrun : (Instr.loadAt t (.pointer (some ad))).run P w = (loadVar t ad).run P w := by simp [Instr.loadAt, Instr.sureAddr]
    rw [hrun]
    unfold loadVar
    simp only [Sem.run_bind, run_isAgg hd, Result.andThen_ok, hag]
    cases ag with
    | true =>
      simp only [if_true] at hpart
      obtain ⟨hlen, hv⟩ := hpart
      refine ⟨_, ?_, hv⟩
      have hc := run_loadCells_list (P := P) w ad ((us.drop o).take sz) (fun j v hv => h3 j v (getElem?_sub _ _ _ _ hv).2)
      rw [hlen] at hc
      simp [sizeOf, typeInfo, hi, hsz, hc]
    | false =>
      simp only [Bool.false_eq_true, if_false] at hpart
      obtain ⟨u, hu, hv⟩ := hpart
      refine ⟨u, ?_, hv⟩
      have hc := h3 0 u (by simpa using hu)
      rw [Addr.add_zero'] at hc
      simp [hc]

theorem storeK1_ok (hp : HeapRep B F H ρ w) {t : TypeId} {s : Nat × Bool} (ht : tySize P t = some s) {p v : AV} (h : VR H ρ F w p x) (hv : VR H ρ F w v y) (hl : astoreK1 s.1 H p v = some H') :
    ∃ w' F', (Instr.storeAt t x y).run P w = .ok () w' ∧ HeapRep B F' H' ρ w' ∧ Ev H ρ H' ρ ∧ Kept B F w w' ∧ (∀ b, F b → F' b) ∧ (∀ b, F' b → F b ∨ B ≤ b) := by
  unfold astoreK1 at hl
  split at hl
  case h_2 => exact store_ok hp ht h hv hl
  rename_i id g i0 o
  split at hl
  case h_2 => cases hl
  rename_i r hr
  obtain ⟨T, sz, es⟩ := r
  simp only at hl
  split at hl
  case h_2 => cases hl
  rename_i el hi0
  split at hl
  case isFalse => cases hl
  rename_i hcond
  obtain ⟨hok, hlen, hfit⟩ := hcond
  injection hl with hl; subst hl
  obtain ⟨i, dd, hi, hd, hsz, hag⟩ := tySize_spec ht
  obtain ⟨ob, v0, us, hob, hown, hrs, hvw, R⟩ := rdO_rep hp hr
  obtain ⟨ad, rfl, ob', hob', _, hpv⟩ := h.rptr_inv
  have : ob' = ob := by have := hob'.symm.trans hob; simpa using this
  subst this
  obtain ⟨_, v1, hv1a, ad0, Nn, cap, rfl, hiN, hx⟩ := (hpv sz g es.length hvw).2 rfl
  have : v0 = .slice (some ad0) Nn cap := by have := R.at_.symm.trans hv1a; simpa using this
  subst this
  obtain ⟨b, rfl⟩ : ∃ b, ad0 = ⟨b, 0, none⟩ := by
    rcases R.own.2 with ⟨hnil, _⟩ | ⟨gb, cap', cur, hvv, _⟩
    · cases hnil
    · injection hvv with q1; injection q1 with q1; exact ⟨gb, q1⟩
  rw [Addr.add_lit, Nat.zero_add] at hx
  injection hx with hx; injection hx with hx; subst hx
  obtain ⟨vs, hy, hvl, hv1, hvr⟩ := hv.cells hok
  have hsl := R.cells el (List.mem_of_getElem? hi0)
  have hilt := lt_of_some hi0
  have hmul : i0 * sz + sz ≤ es.length * sz := by
    have := Nat.mul_le_mul_right sz (Nat.succ_le_of_lt hilt)
    rw [Nat.succ_mul] at this; exact this
  rcases R.own.2 with ⟨hnil, _⟩ | ⟨gb, cap', cur, hvv, hbg, hgb, hnc, hcm, hcs, htk⟩
  · cases hnil
  injection hvv with q1 q2 q3
  injection q1 with q1; injection q1 with q1; subst q1 q3
  have hcurlen : cur.toList.length = cap * sz := by simpa using hcs
  have hcap : es.length * sz ≤ cap * sz := Nat.mul_le_mul_right _ hnc
  have hrun : (Instr.storeAt t (.pointer (some ⟨b, i0 * sz + o, none⟩)) y).run P w = .ok () (w.setRow b (spl cur.toList (i0 * sz + o) vs).toArray) := by
    have hst := run_storeCells_at P b (i0 * sz + o) T vs 0 cur w hgb (by rw [Nat.add_zero, hcs]; omega) hv1
    simp only [Nat.add_zero] at hst
    simp [Instr.storeAt, Instr.sureAddr, storeVar, sizeOf, typeInfo, hi, hy, show vs.length = s.1 by omega, hsz, hst, spl]
  have hset : ρ.set id (.slice (some ⟨b, 0, none⟩) Nn cap) = ρ := set_self R.at_
  have ev2 : Ev H ρ (H.set id (.rr T sz g (es.set i0 (splice el o v.cells)))) ρ := Ev.setSame hob (by rw [hvw]; simp [AO.view]) rfl
  let us0 := (us.drop (i0 * sz)).take sz
  have hus0 : us0.length = sz := by
    show ((us.drop (i0 * sz)).take sz).length = sz
    rw [List.length_take, List.length_drop, R.own.1]; omega
  have hsp := splice_ok (R := VR H ρ F w) (fun u => .imm (.top u)) (el := el) (ds := v.cells) (us := us0) (vs := vs) (o := o) (by rw [hsl, hus0]) hvl (by rw [hsl]; omega)
    (fun j c u hc hu => by
      obtain ⟨hj, hu'⟩ := getElem?_sub _ _ _ _ hu
      exact R.rel _ c u (by rw [flat_get R.cells hi0 hj]; exact hc) hu') hvr
  have hcells' : ∀ e ∈ es.set i0 (splice el o v.cells), e.cells.length = sz := by
    intro e he
    rcases List.mem_or_eq_of_mem_set he with he | he
    · exact R.cells e he
    · rw [he, hsp.1]; exact hsl
  have hulen : us.length = es.length * sz := R.own.1
  have hsplu : i0 * sz + o + vs.length ≤ us.length := by omega
  have htake : (spl cur.toList (i0 * sz + o) vs).take (es.length * sz) = spl us (i0 * sz + o) vs := by
    apply List.ext_getElem?
    intro j
    rw [List.getElem?_take, spl_get _ _ _ (by omega), spl_get _ _ _ hsplu]
    have hcu : ∀ k, k < es.length * sz → cur.toList[k]? = us[k]? := by
      intro k hk; rw [← htk, List.getElem?_take, if_pos hk]
    by_cases hj : j < es.length * sz
    · rw [if_pos hj, hcu j hj]
    · rw [if_neg hj, if_neg (by omega), if_neg (by omega), List.getElem?_eq_none (by omega)]
  have hw : ∀ bb, F bb → (w.setRow b (spl cur.toList (i0 * sz + o) vs).toArray).heap[bb]? = w.heap[bb]? := fun bb hb => setRow_other w b bb _ (fun e0 => R.free b rfl (e0 ▸ hb))
  have key := hp.setObj (w' := w.setRow b (spl cur.toList (i0 * sz + o) vs).toArray) (v' := .slice (some ⟨b, 0, none⟩) Nn cap) (o' := .rr T sz g (es.set i0 (splice el o v.cells))) hob hown rfl R.at_ grownBy_setRow (.inl rfl) (by rw [hset]; exact ev2)
    (fun _ _ _ _ hh => by cases hh) (fun _ _ _ hh => by cases hh) (fun _ hh => by cases hh)
    (fun T' s' gg es' hh => by
      injection hh with q1 q2 q3 q4; subst q1 q2 q3 q4
      rw [hset]
      refine ⟨spl us (i0 * sz + o) vs, R.at_, ?_, R.pos, hcells', fun u hu => (spl_mem hu).elim (R.one u) (hv1 u), fun j c u hc hu => ?_, R.free⟩
      · refine ⟨by rw [spl_len _ _ _ hsplu, List.length_set, hulen], .inr ⟨b, cap, (spl cur.toList (i0 * sz + o) vs).toArray, by rw [List.length_set, q2], hbg, setRow_heap w b cur _ T (0, 0) hgb, by rw [List.length_set]; exact hnc, hcm, ?_, ?_⟩⟩
        · simp only [List.size_toArray]
          rw [spl_len _ _ _ (by omega)]; exact hcurlen
        · rw [List.length_set]; exact htake
      · refine VR.mono (H := H) (ρ := ρ) (F := F) (w := w) ?_ ev2 (fun _ x => x) hw
        have hjlt : j < es.length * sz := by
          have := lt_of_some hc
          rw [flat_len hcells', List.length_set] at this; exact this
        have hpos := R.pos
        have hdm : j = j / sz * sz + j % sz := by rw [Nat.mul_comm]; exact (Nat.div_add_mod j sz).symm
        have hr' : j % sz < sz := Nat.mod_lt _ hpos
        have hq' : j / sz < es.length := Nat.div_lt_of_lt_mul (by rw [Nat.mul_comm]; exact hjlt)
        rw [hdm] at hc hu
        generalize j / sz = qq at hc hu hq'
        generalize j % sz = rr at hc hu hr'
        by_cases hqi : qq = i0
        · subst hqi
          rw [flat_get hcells' (e := splice el o v.cells) (by rw [getElem?_set_eq _ _ _ _ hilt, if_pos rfl]) hr'] at hc
          refine hsp.2 rr c u hc ?_
          rw [spl_get _ _ _ hsplu] at hu
          rw [spl_get _ _ _ (by rw [hus0]; omega)]
          have hg0 : us0[rr]? = us[qq * sz + rr]? := by
            show ((us.drop (qq * sz)).take sz)[rr]? = _
            rw [List.getElem?_take, if_pos hr', List.getElem?_drop]
          rw [hg0]
          by_cases c1 : rr < o
          · rw [if_pos c1]; rw [if_pos (by omega)] at hu; exact hu
          · rw [if_neg c1]; rw [if_neg (by omega)] at hu
            by_cases c2 : rr < o + vs.length
            · rw [if_pos c2]; rw [if_pos (by omega)] at hu; rw [← hu]; congr 1; omega
            · rw [if_neg c2]; rw [if_neg (by omega)] at hu; exact hu
        · have hes : (es.set i0 (splice el o v.cells))[qq]? = some (es[qq]) := by
            rw [getElem?_set_eq _ _ _ _ hilt, if_neg hqi]; exact List.getElem?_eq_getElem hq'
          rw [flat_get hcells' hes hr'] at hc
          refine R.rel (qq * sz + rr) c u (by rw [flat_get R.cells (List.getElem?_eq_getElem hq') hr']; exact hc) ?_
          rw [spl_get _ _ _ hsplu] at hu
          have hsep : qq * sz + rr < i0 * sz + o ∨ i0 * sz + o + vs.length ≤ qq * sz + rr := by
            rcases Nat.lt_or_ge qq i0 with hh | hh
            · left
              have := Nat.mul_le_mul_right sz (Nat.succ_le_of_lt hh)
              rw [Nat.succ_mul] at this; omega
            · right
              have hh' : i0 < qq := by omega
              have := Nat.mul_le_mul_right sz (Nat.succ_le_of_lt hh')
              rw [Nat.succ_mul] at this; omega
          rcases hsep with hh | hh
          · rw [if_pos hh] at hu; exact hu
          · rw [if_neg (by omega), if_neg (by omega)] at hu; exact hu)
  rw [hset] at key
  exact ⟨_, F, hrun, key.1, ev2, key.2, fun _ x => x, fun _ x => .inl x⟩

theorem storeK_ok (hp : HeapRep B F H ρ w) {t : TypeId} {s : Nat × Bool} (ht : tySize P t = some s) {p v : AV} (h : VR H ρ F w p x) (hv : VR H ρ F w v y) (hl : astoreK s.1 H p v = some H') :
    ∃ w' F', (Instr.storeAt t x y).run P w = .ok () w' ∧ HeapRep B F' H' ρ w' ∧ Ev H ρ H' ρ ∧ Kept B F w w' ∧ (∀ b, F b → F' b) ∧ (∀ b, F' b → F b ∨ B ≤ b) := by
  unfold astoreK at hl
  by_cases hpl : plainE v = true
  · rw [if_pos hpl] at hl
    cases hst : astore s.1 H p v with
    | some H2 => rw [hst] at hl; injection hl with hl; subst hl; exact store_ok hp ht h hv hst
    | none => rw [hst] at hl; exact storeK1_ok hp ht h hv hl
  · rw [if_neg hpl] at hl
    exact storeK1_ok hp ht h hv hl

theorem flat_conv {H : List AO} : ∀ {es : List AV}, es.all isAgg' = true → flat (es.map (conv1 H)) = (flat es).map (conv0 H)
  | [], _ => rfl
  | e :: es, h => by
    simp only [List.all_cons, Bool.and_eq_true] at h
    have ih := flat_conv (H := H) h.2
    cases e with
    | agg cs => simp only [flat, List.map_cons, List.flatMap_cons, List.map_append] at ih ⊢; rw [ih]; rfl
    | _ => simp [isAgg'] at h
theorem flat_refs : ∀ {es : List AV}, es.all isAgg' = true → ∀ (j : Nat) (c : AV), (flat es)[j]? = some c → ∀ id ∈ refs0 c, id ∈ es.flatMap refs1
  | [], _, j, c, hc, _, _ => by simp [flat] at hc
  | e :: es, h, j, c, hc, id, hid => by
    simp only [List.all_cons, Bool.and_eq_true] at h
    cases e with
    | agg cs =>
      simp only [flat, List.flatMap_cons] at hc
      simp only [List.flatMap_cons, List.mem_append]
      rcases Nat.lt_or_ge j cs.length with hj | hj
      · rw [List.getElem?_append_left (by simpa [AV.cells] using hj)] at hc
        left
        exact List.mem_flatMap.2 ⟨c, List.mem_of_getElem? hc, hid⟩
      · rw [List.getElem?_append_right (by simpa [AV.cells] using hj)] at hc
        exact .inr (flat_refs h.2 _ c hc id hid)
    | _ => simp [isAgg'] at h
theorem frz_rr : ∀ (ids : List Nat) (H : List AO) (id T s g : Nat) (es : List AV), H[id]? = some (.rr T s g es) → (frz ids H)[id]? = some (.rr T s g es)
  | [], _, _, _, _, _, _, h => h
  | i :: r, H, id, T, s, g, es, h => by
    unfold frz
    split
    · rename_i hi
      refine frz_rr r _ id T s g es ?_
      rw [getElem?_set_eq _ _ _ _ (lt_of_some hi), if_neg]
      · exact h
      · intro e; subst e; rw [h] at hi; cases hi
    · exact frz_rr r H id T s g es h
theorem HeapRep.close1 (hp : HeapRep B F H ρ w) (id : Nat) :
    ∃ F' : Nat → Prop, HeapRep B F' (closeR id H) ρ w ∧ Ev H ρ (closeR id H) ρ ∧ (∀ b, F b → F' b) ∧ (∀ b, F' b → F b ∨ B ≤ b) ∧ (closeR id H).length = H.length := by
  unfold closeR
  split
  · rename_i T s g es hob
    split
    · rename_i hag
      obtain ⟨F1, hp1, ev1, hF1, hF1b, hlen1, hF1r⟩ := hp.frz (es.flatMap refs1)
      obtain ⟨v, us, R⟩ := hp.rr _ _ _ _ _ hob
      have hob1 := frz_rr (es.flatMap refs1) H id T s g es hob
      obtain ⟨v1, us1, R1⟩ := hp1.rr _ _ _ _ _ hob1
      have : v1 = v := by have := R1.at_.symm.trans R.at_; simpa using this
      subst this
      have hset : ρ.set id v1 = ρ := set_self R.at_
      have ev2 : Ev (PI.frz (es.flatMap refs1) H) ρ ((PI.frz (es.flatMap refs1) H).set id (.row T s g (es.map (conv1 H)))) ρ := Ev.setSame hob1 (by simp [AO.view]) rfl
      have key := hp1.setObj (w' := w) (v' := v1) (o' := .row T s g (es.map (conv1 H))) hob1 rfl rfl R.at_ ⟨rfl, rfl, rfl, Nat.le_refl _, fun _ _ _ => rfl⟩ (.inl rfl) (by rw [hset]; exact ev2)
        (fun T' s' gg es' hh => by
          injection hh with q1 q2 q3 q4; subst q1 q2 q3 q4
          rw [hset]
          refine ⟨us, R.at_, by rw [List.length_map]; exact R.own, R.pos, fun e he => ?_, R.one, fun j c u hc hu => ?_, R1.free⟩
          · obtain ⟨d0, he0, rfl⟩ := List.mem_map.1 he
            rw [conv1_cells]; exact R.cells d0 he0
          · rw [flat_conv hag, List.getElem?_map] at hc
            cases hcj : (flat es)[j]? with
            | none => rw [hcj] at hc; cases hc
            | some c0 =>
              rw [hcj] at hc
              simp only [Option.map_some, Option.some.injEq] at hc
              subst hc
              exact conv0_ir hp (R.rel j c0 u hcj hu) hF1 (fun id' T' s' g' es' v0 b a1 a2 a3 a4 => hF1r id' T' s' g' es' v0 b a1 a2 a3 (flat_refs hag j c0 hcj id' a4)))
        (fun _ _ _ hh => by cases hh) (fun _ hh => by cases hh)
      rw [hset] at key
      exact ⟨F1, key.1, ev1.trans ev2, hF1, hF1b, by rw [List.length_set]; exact hlen1⟩
    · rename_i hag
      exact ⟨F, hp, Ev.refl _ _, fun _ x => x, fun _ x => .inl x, rfl⟩
  · exact ⟨F, hp, Ev.refl _ _, fun _ x => x, fun _ x => .inl x, rfl⟩
theorem HeapRep.closeL : ∀ (ids : List Nat) {F : Nat → Prop} {H : List AO}, HeapRep B F H ρ w →
    ∃ F' : Nat → Prop, HeapRep B F' (PI.closeL ids H) ρ w ∧ Ev H ρ (PI.closeL ids H) ρ ∧ (∀ b, F b → F' b) ∧ (∀ b, F' b → F b ∨ B ≤ b) ∧ (PI.closeL ids H).length = H.length
  | [], F, H, h => ⟨F, h, Ev.refl _ _, fun _ x => x, fun _ x => .inl x, rfl⟩
  | i :: r, F, H, h => by
    obtain ⟨F1, h1, e1, a1, b1, l1⟩ := h.close1 i
    obtain ⟨F2, h2, e2, a2, b2, l2⟩ := HeapRep.closeL r h1
    exact ⟨F2, h2, e1.trans e2, fun b x => a2 b (a1 b x), fun b x => (b2 b x).elim (b1 b) .inr, l2.trans l1⟩

theorem idxR_ok (hp : HeapRep B F H ρ w) {t el : TypeId} {z : Nat × AV} (ht : P.underlying t = some (.slice el)) (hz : tyElem P el = some z) {xv d : AV} {k : IntKind} {i : Nat} (hx : VR H ρ F w xv x) (hs : aidxR z.1 i H xv = some d) :
    ∃ v, (Instr.indexAt t x (.int k (i : Int))).run P w = .ok v w ∧ VR H ρ F w d v := by
  unfold aidxR at hs
  split at hs
  case h_2 => exact idx_ok hp ht hz hx hs
  rename_i id g o n
  split at hs
  case h_2 => exact idx_ok hp ht hz hx hs
  rename_i r hr
  obtain ⟨T, s0, es⟩ := r
  simp only at hs
  split at hs
  case isFalse => cases hs
  rename_i hcond
  obtain ⟨rfl, hin⟩ := hcond
  injection hs with hs; subst hs
  obtain ⟨inf, zv, hi0, hzv, hcz, hokz, hpos, hby, hsz, hcl, hzs⟩ := tyElem_spec hz
  obtain ⟨A, c, rfl, hok⟩ := hx.ref_inv
  obtain ⟨ob, v, us, hob, hown, hrs, hvw, R⟩ := rdO_rep hp hr
  have hok' := hok
  obtain ⟨ob', hob', _, hv⟩ := hok'
  have : ob' = ob := by have := hob'.symm.trans hob; simpa using this
  subst this
  obtain ⟨hon, v0, hv0, A1, N1, cap1, A2, rfl, hx2, hoN, hpos', _⟩ := (hv z.1 g es.length hvw).2 rfl
  injection hx2 with e1 _ e3
  subst e1
  obtain ⟨ad, rfl, rfl⟩ := hpos' (by omega)
  have run : (Instr.indexAt t (.slice (some (ad.add (o * z.1))) n c) (.int k (i : Int))).run P w = .ok (.pointer (some ((ad.add (o * z.1)).add (i * z.1)))) w := by
    have hin' : (i : Int) < (n : Int) := by omega
    simp [Instr.indexAt, asIntOf, run_underlying ht, sizeOf, typeInfo, hi0, hsz]
    intro hc; omega
  refine ⟨_, run, .rptr _ _ _ _ _ ⟨ob', hob, hrs, fun s1 g1 N2 hvw' => ?_⟩⟩
  rw [hvw] at hvw'
  simp only [Option.some.injEq, Prod.mk.injEq] at hvw'
  obtain ⟨rfl, rfl, rfl⟩ := hvw'
  exact ⟨Nat.le_refl _, fun _ => ⟨by omega, _, hv0, ad, N1, cap1, rfl, by omega, by rw [add_add', Nat.add_mul]; simp⟩⟩
end
end Go.PI
