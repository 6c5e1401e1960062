/- Stores, new variables and rows, appends: what the interpreter says is what the model does. No condition. -/
import Derived.Test.YtpphfbfmoipoaaaDoorPi6
namespace Go.PI
open Go.RowKit

section
variable {P : Program} {C : Cfg} {im : Md} {B N : Nat} {F F' : Nat → Prop} {H H' : List AO} {ρ ρ' : List Value} {w w' : World} {x y : Value} {e : Env} {a : Act}

theorem spl_len {α : Type} (l : List α) (o : Nat) (m : List α) (h : o + m.length ≤ l.length) : (spl l o m).length = l.length := by
  simp only [spl, List.length_append, List.length_take, List.length_drop]; omega

theorem spl_get {α : Type} (l : List α) (o : Nat) (m : List α) (h : o + m.length ≤ l.length) (j : Nat) :
    (spl l o m)[j]? = if j < o then l[j]? else if j < o + m.length then m[j - o]? else l[j]? := by
  unfold spl
  have h1 : (l.take o).length = o := by rw [List.length_take]; omega
  by_cases hj : j < o
  · rw [if_pos hj, List.append_assoc, List.getElem?_append_left (by omega), List.getElem?_take, if_pos hj]
  · rw [if_neg hj]
    by_cases hj2 : j < o + m.length
    · rw [if_pos hj2, List.getElem?_append_left (by simp [h1]; omega), List.getElem?_append_right (by omega), h1]
    · rw [if_neg hj2, List.getElem?_append_right (by simp [h1]; omega), List.getElem?_drop]
      congr 1
      simp [h1]; omega

theorem spl_mem {α : Type} {l : List α} {o : Nat} {m : List α} {u : α} (h : u ∈ spl l o m) : u ∈ l ∨ u ∈ m := by
  simp only [spl, List.mem_append] at h
  rcases h with (h | h) | h
  · exact .inl (List.mem_of_mem_take h)
  · exact .inr h
  · exact .inl (List.mem_of_mem_drop h)

theorem spl_rel {R : AV → Value → Prop} {cs ds : List AV} {us vs : List Value} {o : Nat} (hl : cs.length = us.length) (hm : ds.length = vs.length) (ho : o + ds.length ≤ cs.length)
    (h1 : ∀ (j : Nat) (c : AV) (u : Value), cs[j]? = some c → us[j]? = some u → R c u) (h2 : ∀ (j : Nat) (c : AV) (u : Value), ds[j]? = some c → vs[j]? = some u → R c u) :
    ∀ (j : Nat) (c : AV) (u : Value), (spl cs o ds)[j]? = some c → (spl us o vs)[j]? = some u → R c u := by
  intro j c u hc hu
  rw [spl_get _ _ _ ho] at hc
  rw [spl_get _ _ _ (by omega)] at hu
  by_cases hj : j < o
  · rw [if_pos hj] at hc hu; exact h1 j c u hc hu
  · rw [if_neg hj] at hc hu
    by_cases hj2 : j < o + ds.length
    · rw [if_pos hj2] at hc; rw [if_pos (by omega)] at hu; exact h2 _ c u hc hu
    · rw [if_neg hj2] at hc; rw [if_neg (by omega)] at hu; exact h1 j c u hc hu

theorem splice_ok {R : AV → Value → Prop} (hR : ∀ u, R .top u) {el : AV} {ds : List AV} {us vs : List Value} {o : Nat} (hl : el.cells.length = us.length) (hm : ds.length = vs.length) (ho : o + ds.length ≤ el.cells.length)
    (h1 : ∀ (j : Nat) (c : AV) (u : Value), el.cells[j]? = some c → us[j]? = some u → R c u) (h2 : ∀ (j : Nat) (c : AV) (u : Value), ds[j]? = some c → vs[j]? = some u → R c u) :
    (splice el o ds).cells.length = el.cells.length ∧ ∀ (j : Nat) (c : AV) (u : Value), (splice el o ds).cells[j]? = some c → (spl us o vs)[j]? = some u → R c u := by
  by_cases ha : ∃ cs, el = .agg cs
  · obtain ⟨cs, rfl⟩ := ha
    exact ⟨spl_len _ _ _ ho, spl_rel hl hm ho h1 h2⟩
  · have hcell : el.cells = [el] := by cases el <;> first | rfl | exact absurd ⟨_, rfl⟩ ha
    have hsp0 : splice el o [] = .top := by cases el <;> first | rfl | exact absurd ⟨_, rfl⟩ ha
    have hsp1 : ∀ c, splice el o [c] = lone c := by intro c; cases el <;> first | rfl | exact absurd ⟨_, rfl⟩ ha
    have hsp2 : ∀ c d r, splice el o (c :: d :: r) = .top := by intro c d r; cases el <;> first | rfl | exact absurd ⟨_, rfl⟩ ha
    rw [hcell] at hl ho
    simp only [List.length_cons, List.length_nil] at hl ho
    have topc : ∀ (j : Nat) (c : AV) (u : Value), (AV.cells .top)[j]? = some c → (spl us o vs)[j]? = some u → R c u := by
      intro j c u hc _
      cases j with
      | zero => simp [AV.cells] at hc; subst hc; exact hR u
      | succ j => simp [AV.cells] at hc
    match ds, vs, hm, h2 with
    | [], [], _, _ => rw [hsp0]; exact ⟨by rw [hcell]; rfl, topc⟩
    | [c], [v], _, h2 =>
      rw [hsp1]
      have hn : (lone c).cells.length = 1 := by cases c <;> rfl
      refine ⟨by rw [hcell]; exact hn, fun j c' u hc hu => ?_⟩
      have hus : spl us o [v] = [v] := by
        have ho0 : o = 0 := by simp at ho; omega
        subst ho0
        unfold spl
        rw [List.drop_eq_nil_of_le (by simp; omega)]
        simp
      rw [hus] at hu
      cases j with
      | succ j => simp at hu
      | zero =>
        simp at hu; subst hu
        cases c with
        | agg l => simp [lone, AV.cells] at hc; subst hc; exact hR _
        | _ => simp [lone, AV.cells] at hc; subst hc; exact h2 0 _ _ rfl rfl
    | c :: d :: r, v :: v' :: r', _, _ => rw [hsp2]; exact ⟨by rw [hcell]; rfl, topc⟩

theorem Ev.setGen {id : Nat} {o o' : AO} {v' : Value} (h : H[id]? = some o) (hl : ρ.length = H.length) (hr' : o'.isRsv = false) (hv : ∀ s' g' N', o'.view = some (s', g', N') → ∃ s g N, o.view = some (s, g, N) ∧ g < g') : Ev H ρ (H.set id o') (ρ.set id v') := by
  have hlt := lt_of_some h
  intro i oo hi hr
  rw [getElem?_set_eq _ _ _ _ hlt]
  split
  · rename_i e0; subst e0
    have e2 : o = oo := by rw [h] at hi; injection hi
    subst e2
    refine ⟨o', rfl, hr', fun s' g' N' hvv => ?_⟩
    obtain ⟨s, g, N, h1, h2⟩ := hv s' g' N' hvv
    exact ⟨s, g, N, h1, by omega, fun e1 => by omega⟩
  · rename_i hne
    exact ⟨oo, hi, hr, fun s g N hvv => ⟨s, g, N, hvv, Nat.le_refl _, fun _ => ⟨rfl, Nat.le_refl _, by rw [getElem?_set_eq _ _ _ _ (by omega), if_neg hne]⟩⟩⟩

theorem set_self {α : Type} {l : List α} {i : Nat} {x : α} (h : l[i]? = some x) : l.set i x = l := by
  apply List.ext_getElem?
  intro j
  rw [getElem?_set_eq _ _ _ _ (lt_of_some h)]
  split
  · rename_i e0; subst e0; exact h.symm
  · rfl

theorem grownBy_setRow {g : Nat} {cs : Array Value} : w.grownBy (w.setRow g cs) (some g) :=
  ⟨rfl, rfl, rfl, by simp, fun k _ hk => setRow_other w g k cs (fun e0 => hk (by rw [e0]))⟩

/-- A store. -/
theorem store_ok (hp : HeapRep B F H ρ w) {t : TypeId} {s : Nat × Bool} (ht : tySize P t = some s) {p v : AV} (h : VR H ρ F w p x) (hv : VR H ρ F w v y) (hl : astore s.1 H p v = some H') :
    ∃ w' F', (Instr.storeAt t x y).run P w = .ok () w' ∧ HeapRep B F' H' ρ w' ∧ Ev H ρ H' ρ ∧ Kept B F w w' ∧ (∀ b, F b → F' b) ∧ (∀ b, F' b → F b ∨ B ≤ b) := by
  obtain ⟨i, dd, hi, hd, hsz, hag⟩ := tySize_spec ht
  have run : ∀ (b o : Nat) (cur : Array Value) (T : TypeId) (vs : List Value), x = .pointer (some ⟨b, o, none⟩) → y.cells = vs.toArray → vs.length = s.1 → (∀ u ∈ vs, u.oneCell' = true) →
      w.heap[b]? = some (.cells cur T (0, 0)) → o + vs.length ≤ cur.size → (Instr.storeAt t x y).run P w = .ok () (w.setRow b (spl cur.toList o vs).toArray) := by
    intro b o cur T vs hx hy hvl h1 hb hle
    have hst := run_storeCells_at P b o T vs 0 cur w hb (by simpa using hle) h1
    simp only [Nat.add_zero] at hst
    simp [Instr.storeAt, Instr.sureAddr, hx, storeVar, sizeOf, typeInfo, hi, hy, hvl, hsz, hst, spl]
  cases p with
  | bptr id o =>
    obtain ⟨ad, rfl, ob, hob, hrs, hbv⟩ := h.bptr_inv
    simp only [astore, hob] at hl
    cases ob with
    | box T sz el =>
      simp only at hl
      split at hl
      · rename_i hcond
        obtain ⟨hok, hlen, hfit⟩ := hcond
        injection hl with hl; subst hl
        obtain ⟨b, us, R⟩ := hp.box _ _ _ _ hob
        obtain ⟨b', hb1, hb2⟩ := hbv sz 0 1 rfl rfl
        have : b' = b := by have := hb1.symm.trans R.at_; simpa using this
        subst this
        injection hb2 with hb2; injection hb2 with hb2; subst hb2
        obtain ⟨vs, hy, hvl, hv1, hvr⟩ := hv.cells hok
        have hle : o + v.cells.length ≤ el.cells.length := by rw [R.cells]; omega
        have hrun := run b' o us.toArray T vs rfl hy (by omega) hv1 R.own (by simp; rw [R.len]; omega)
        have hset : ρ.set id (.pointer (some ⟨b', 0, none⟩)) = ρ := set_self R.at_
        have ev : Ev H ρ (H.set id (.box T sz (splice el o v.cells))) ρ := Ev.setSame hob rfl rfl
        obtain ⟨hc1, hc2⟩ := splice_ok (R := VR H ρ F w) (fun u => .imm (.top u)) (by rw [R.cells, R.len]) hvl hle R.rel hvr
        have hw : ∀ b, F b → (w.setRow b' (spl us o vs).toArray).heap[b]? = w.heap[b]? := fun b hb => setRow_other w b' b _ (fun e0 => R.free (e0 ▸ hb))
        have key := hp.setObj (w' := w.setRow b' (spl us o vs).toArray) (v' := .pointer (some ⟨b', 0, none⟩)) (o' := .box T sz (splice el o v.cells)) hob rfl rfl R.at_ grownBy_setRow (.inl rfl) (by rw [hset]; exact ev)
          (fun _ _ _ _ hh => by cases hh) (fun T' s' e' hh => by
            injection hh with q1 q2 q3; subst q1 q2 q3
            rw [hset]
            refine ⟨b', spl us o vs, R.at_, ?_, R.base, by rw [hc1]; exact R.cells, by rw [spl_len _ _ _ (by rw [R.len]; omega)]; exact R.len, fun u hu => (spl_mem hu).elim (R.one u) (hv1 u), fun j c u hc hu => (hc2 j c u hc hu).mono ev (fun _ x => x) hw, R.free⟩
            exact setRow_heap w b' us.toArray _ T (0, 0) R.own) (fun d hh => by cases hh)
        rw [hset] at key
        exact ⟨_, F, hrun, key.1, ev, key.2, fun _ x => x, fun _ x => .inl x⟩
      · cases hl
    | row => cases hl
    | fz => cases hl
    | rr => cases hl
    | obj => cases hl
    | rsv => cases hl
    | gone => cases hl
  | rptr id g i0 o =>
    obtain ⟨ad, rfl, hptr⟩ := h.rptr_inv
    obtain ⟨F1, hp1, ev1, hF1, hF1b, hlen1, hF1r⟩ := hp.frz (refs1 v)
    simp only [astore] at hl
    cases hob : (frz (refs1 v) H)[id]? with
    | none => rw [hob] at hl; cases hl
    | some ob =>
      rw [hob] at hl
      cases ob with
      | row T sz g' es =>
        simp only at hl
        split at hl
        case isFalse => cases hl
        rename_i hg
        subst hg
        cases hi0 : es[i0]? with
        | none => rw [hi0] at hl; cases hl
        | some el =>
          rw [hi0] at hl
          simp only at hl
          split at hl
          case isFalse => cases hl
          rename_i hcond
          obtain ⟨hok, hlen, hfit⟩ := hcond
          injection hl with hl; subst hl
          obtain ⟨v0, us, R⟩ := hp1.row _ _ _ _ _ hob
          obtain ⟨ob', hob', _, hptr'⟩ := hptr.mono ev1
          have : ob' = .row T sz g' es := by have := hob'.symm.trans hob; simpa using this
          subst this
          obtain ⟨_, hq⟩ := hptr' sz g' es.length rfl
          obtain ⟨_, v1, hv1a, ad0, Nn, cap, rfl, hiN, hx⟩ := hq rfl
          have : v0 = .slice (some ad0) Nn cap := by have := R.at_.symm.trans hv1a; simpa using this
          subst this
          obtain ⟨b, rfl⟩ : ∃ b, ad0 = ⟨b, 0, none⟩ := by
            rcases R.own.2 with ⟨hnil, _⟩ | ⟨gb, cap', cur, hvv, _⟩
            · cases hnil
            · injection hvv with q1; injection q1 with q1; exact ⟨gb, q1⟩
          rw [Addr.add_lit, Nat.zero_add] at hx
          injection hx with hx; injection hx with hx; subst hx
          obtain ⟨vs, hy, hvl, hv1, hvr⟩ := hv.cells hok
          have hci := conv1_ir hp hv hF1 (fun id T s g es v0 b a1 a2 a3 a4 => hF1r id T s g es v0 b a1 a2 a3 a4)
          have hcc := conv1_cells H v
          have hokc : okCells (conv1 H v) = true ∨ True := .inr trivial
          -- the converted value's cells
          have hcr : ∀ (j : Nat) (c : AV) (u : Value), (conv1 H v).cells[j]? = some c → vs[j]? = some u → IR F1 w c u := by
            intro j c u hc hu
            by_cases ha : ∃ cs, v = .agg cs
            · obtain ⟨cs, rfl⟩ := ha
              simp only [conv1] at hci hc
              cases hci with
              | agg _ us' hl' h1' hr' =>
                have : us' = vs := by
                  have : (Value.agg us'.toArray).cells = vs.toArray := hy
                  simpa [Value.cells] using this
                subst this
                exact hr' j c u hc hu
            · have hnc : (conv1 H v).cells = [conv1 H v] := by
                have h1c : (conv1 H v).cells.length = 1 := by rw [hcc]; cases v <;> first | rfl | exact absurd ⟨_, rfl⟩ ha
                have hnot : ∀ cs, conv1 H v ≠ .agg cs := by
                  intro cs hh
                  cases v with
                  | agg cs => exact ha ⟨_, rfl⟩
                  | fn f cs => simp [conv1] at hh
                  | ref id g o n =>
                    simp only [conv1, conv0] at hh
                    cases hrr : rdRow H id g <;> rw [hrr] at hh <;> cases hh
                  | _ => simp [conv1, conv0] at hh
                cases hcv : conv1 H v with
                | agg cs => exact absurd hcv (hnot cs)
                | _ => rfl
              have hvs : vs = [y] := by
                have hone := hv.one (by cases v <;> first | exact hok | exact absurd ⟨_, rfl⟩ ha)
                have hyc : y.cells = #[y] := by cases y <;> first | rfl | simp [Value.oneCell'] at hone
                have := hyc.symm.trans hy
                simpa using this.symm
              rw [hnc] at hc
              rw [hvs] at hu
              cases j with
              | zero => simp at hc hu; subst hc hu; exact hci
              | succ j => simp at hc
          have hsl := R.cells el (List.mem_of_getElem? hi0)
          have hilt := lt_of_some hi0
          have hmul : i0 * sz + sz ≤ es.length * sz := by
            have := Nat.mul_le_mul_right sz (Nat.succ_le_of_lt hilt)
            rw [Nat.succ_mul] at this; exact this
          rcases R.own.2 with ⟨hnil, _⟩ | ⟨gb, cap', cur, hvv, hbg, hgb, hnc, hcm, hcs, htk⟩
          · cases hnil
          injection hvv with q1 q2 q3
          injection q1 with q1; injection q1 with q1; subst q1 q3
          have hcurlen : cur.toList.length = cap * sz := by simpa using hcs
          have hcap : es.length * sz ≤ cap * sz := Nat.mul_le_mul_right _ hnc
          have hrun := run b (i0 * sz + o) cur T vs rfl hy (by omega) hv1 hgb (by rw [hcs]; omega)
          have hset : ρ.set id (.slice (some ⟨b, 0, none⟩) Nn cap) = ρ := set_self R.at_
          have ev2 : Ev (frz (refs1 v) H) ρ ((frz (refs1 v) H).set id (.row T sz g' (es.set i0 (splice el o (conv1 H v).cells)))) ρ := Ev.setSame hob (by simp [AO.view]) rfl
          let us0 := (us.drop (i0 * sz)).take sz
          have hus0 : us0.length = sz := by
            show ((us.drop (i0 * sz)).take sz).length = sz
            rw [List.length_take, List.length_drop, R.own.1]; omega
          have hsp := splice_ok (R := IR F1 w) (fun u => .top u) (el := el) (ds := (conv1 H v).cells) (us := us0) (vs := vs) (o := o) (by rw [hsl, hus0]) (by rw [hcc]; exact hvl) (by rw [hcc, hsl]; omega)
            (fun j c u hc hu => by
              obtain ⟨hj, hu'⟩ := getElem?_sub _ _ _ _ hu
              exact R.rel _ c u (by rw [flat_get R.cells hi0 hj]; exact hc) hu') hcr
          have hcells' : ∀ e ∈ es.set i0 (splice el o (conv1 H v).cells), e.cells.length = sz := by
            intro e he
            rcases List.mem_or_eq_of_mem_set he with he | he
            · exact R.cells e he
            · rw [he, hsp.1]; exact hsl
          have hulen : us.length = es.length * sz := R.own.1
          have hsplu : i0 * sz + o + vs.length ≤ us.length := by omega
          have htake : (spl cur.toList (i0 * sz + o) vs).take (es.length * sz) = spl us (i0 * sz + o) vs := by
            apply List.ext_getElem?
            intro j
            rw [List.getElem?_take, spl_get _ _ _ (by omega), spl_get _ _ _ hsplu]
            have hcu : ∀ k, k < es.length * sz → cur.toList[k]? = us[k]? := by
              intro k hk; rw [← htk, List.getElem?_take, if_pos hk]
            by_cases hj : j < es.length * sz
            · rw [if_pos hj, hcu j hj]
            · rw [if_neg hj, if_neg (by omega), if_neg (by omega), List.getElem?_eq_none (by omega)]
          have hw : ∀ bb, F1 bb → (w.setRow b (spl cur.toList (i0 * sz + o) vs).toArray).heap[bb]? = w.heap[bb]? := fun bb hb => setRow_other w b bb _ (fun e0 => R.free b rfl (e0 ▸ hb))
          have key := hp1.setObj (w' := w.setRow b (spl cur.toList (i0 * sz + o) vs).toArray) (v' := .slice (some ⟨b, 0, none⟩) Nn cap) (o' := .row T sz g' (es.set i0 (splice el o (conv1 H v).cells))) hob rfl rfl R.at_ grownBy_setRow (.inl rfl) (by rw [hset]; exact ev2)
            (fun T' s' gg es' hh => by
              injection hh with q1 q2 q3 q4; subst q1 q2 q3 q4
              rw [hset]
              refine ⟨spl us (i0 * sz + o) vs, R.at_, ?_, R.pos, hcells', fun u hu => (spl_mem hu).elim (R.one u) (hv1 u), fun j c u hc hu => ?_, R.free⟩
              · refine ⟨by rw [spl_len _ _ _ hsplu, List.length_set, hulen], .inr ⟨b, cap, (spl cur.toList (i0 * sz + o) vs).toArray, by rw [List.length_set, q2], hbg, setRow_heap w b cur _ T (0, 0) hgb, by rw [List.length_set]; exact hnc, hcm, ?_, ?_⟩⟩
                · simp only [List.size_toArray]
                  rw [spl_len _ _ _ (by omega)]; exact hcurlen
                · rw [List.length_set]; exact htake
              · refine IR.mono ?_ (fun _ x => x) hw
                have hjlt : j < es.length * sz := by
                  have := lt_of_some hc
                  rw [flat_len hcells', List.length_set] at this; exact this
                have hpos := R.pos
                have hdm : j = j / sz * sz + j % sz := by rw [Nat.mul_comm]; exact (Nat.div_add_mod j sz).symm
                have hr' : j % sz < sz := Nat.mod_lt _ hpos
                have hq' : j / sz < es.length := Nat.div_lt_of_lt_mul (by rw [Nat.mul_comm]; exact hjlt)
                rw [hdm] at hc hu
                generalize j / sz = qq at hc hu hq'
                generalize j % sz = rr at hc hu hr'
                by_cases hqi : qq = i0
                · subst hqi
                  rw [flat_get hcells' (e := splice el o (conv1 H v).cells) (by rw [getElem?_set_eq _ _ _ _ hilt, if_pos rfl]) hr'] at hc
                  refine hsp.2 rr c u hc ?_
                  rw [spl_get _ _ _ hsplu] at hu
                  rw [spl_get _ _ _ (by rw [hus0]; omega)]
                  have hg0 : us0[rr]? = us[qq * sz + rr]? := by
                    show ((us.drop (qq * sz)).take sz)[rr]? = _
                    rw [List.getElem?_take, if_pos hr', List.getElem?_drop]
                  rw [hg0]
                  by_cases c1 : rr < o
                  · rw [if_pos c1]; rw [if_pos (by omega)] at hu; exact hu
                  · rw [if_neg c1]; rw [if_neg (by omega)] at hu
                    by_cases c2 : rr < o + vs.length
                    · rw [if_pos c2]; rw [if_pos (by omega)] at hu; rw [← hu]; congr 1; omega
                    · rw [if_neg c2]; rw [if_neg (by omega)] at hu; exact hu
                · have hes : (es.set i0 (splice el o (conv1 H v).cells))[qq]? = some (es[qq]) := by
                    rw [getElem?_set_eq _ _ _ _ hilt, if_neg hqi]; exact List.getElem?_eq_getElem hq'
                  rw [flat_get hcells' hes hr'] at hc
                  refine R.rel (qq * sz + rr) c u (by rw [flat_get R.cells (List.getElem?_eq_getElem hq') hr']; exact hc) ?_
                  rw [spl_get _ _ _ hsplu] at hu
                  have hsep : qq * sz + rr < i0 * sz + o ∨ i0 * sz + o + vs.length ≤ qq * sz + rr := by
                    rcases Nat.lt_or_ge qq i0 with hh | hh
                    · left
                      have := Nat.mul_le_mul_right sz (Nat.succ_le_of_lt hh)
                      rw [Nat.succ_mul] at this; omega
                    · right
                      have hh' : i0 < qq := by omega
                      have := Nat.mul_le_mul_right sz (Nat.succ_le_of_lt hh')
                      rw [Nat.succ_mul] at this; omega
                  rcases hsep with hh | hh
                  · rw [if_pos hh] at hu; exact hu
                  · rw [if_neg (by omega), if_neg (by omega)] at hu; exact hu)
            (fun _ _ _ hh => by cases hh) (fun _ hh => by cases hh)
          rw [hset] at key
          exact ⟨_, F1, hrun, key.1, ev1.trans ev2, ⟨key.2.os, key.2.tape, key.2.output, key.2.size, fun k hk hc => key.2.block k hk (hc.imp (fun x => x) (hF1 k))⟩, hF1, hF1b⟩
      | fz => cases hl
      | box => cases hl
      | rr => cases hl
      | obj => cases hl
      | rsv => cases hl
      | gone => cases hl
  | _ => cases hl

end
end Go.PI
