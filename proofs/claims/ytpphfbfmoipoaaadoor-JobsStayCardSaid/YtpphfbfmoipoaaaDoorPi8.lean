/- New variables and rows, composite values, appends: what the interpreter says is what the model does. No condition. -/
import Derived.Test.YtpphfbfmoipoaaaDoorPi7
namespace Go.PI
open Go.RowKit

section
variable {P : Program} {C : Cfg} {im : Md} {B N : Nat} {F F' : Nat → Prop} {H H' : List AO} {ρ ρ' : List Value} {w w' : World} {x y : Value} {e : Env} {a : Act}

theorem below_alloc (w : World) (o : Obj) : Below w.heap.size w (w.alloc o) := (Below.refl _ _).alloc (Nat.le_refl _) o

theorem Kept.of_below (h : Below w.heap.size w w') : Kept B F w w' := ⟨h.os, h.tape, h.output, h.size, fun k hk _ => h.block k hk⟩

/-- A new variable. -/
theorem newBox (hp : HeapRep B F H ρ w) {T s : Nat} {el : AV} {us : List Value} (cells : el.cells.length = s) (len : us.length = s) (one : ∀ u ∈ us, u.oneCell' = true)
    (rel : ∀ (j : Nat) (c : AV) (u : Value), el.cells[j]? = some c → us[j]? = some u → VR H ρ F w c u) :
    Post B F H ρ w (.bptr H.length 0) (H ++ [.box T s el]) (.pointer (some ⟨w.heap.size, 0, none⟩)) (w.alloc (.cells us.toArray T)) (ρ ++ [.pointer (some ⟨w.heap.size, 0, none⟩)]) F := by
  have hb := below_alloc w (.cells us.toArray T)
  have hw : ∀ b, F b → (w.alloc (.cells us.toArray T)).heap[b]? = w.heap[b]? := fun b h => hb.block b (hp.fb b h)
  refine ⟨(hp.grow hb).pushBox (heap_alloc_new w _) hp.base cells len one (fun j c u hc hu => (rel j c u hc hu).mono (Ev.refl _ _) (fun _ x => x) hw) (fun h => by have := hp.fb _ h; omega) ?_, ?_, Ev.push _ _ _ _ hp.len, Kept.of_below hb, fun _ x => x, fun _ x => .inl x⟩
  · intro id o v' h1 h2 h3 h4
    have := (hp.ownBlk h1 h2 h3 h4).2.1; omega
  · refine .bptr _ _ _ ⟨.box T s el, by simp, rfl, fun s' g' N' _ h0 => ⟨w.heap.size, by rw [← hp.len]; simp, rfl⟩⟩

/-- A new row. -/
theorem newRow_ok (hp : HeapRep B F H ρ w) (hb : Below w.heap.size w w') {T s n cap : Nat} {es : List AV} {us : List Value} (hn : es.length = n)
    (own : w'.ownsRow B T s (.slice (some ⟨w.heap.size, 0, none⟩) n cap) n us) (pos : 0 < s) (cells : ∀ e ∈ es, e.cells.length = s) (one : ∀ u ∈ us, u.oneCell' = true)
    (rel : ∀ (j : Nat) (c : AV) (u : Value), (flat es)[j]? = some c → us[j]? = some u → IR F w c u) :
    Post B F H ρ w (.ref H.length 0 0 n) (H ++ [.row T s 0 es]) (.slice (some ⟨w.heap.size, 0, none⟩) n cap) w' (ρ ++ [.slice (some ⟨w.heap.size, 0, none⟩) n cap]) F := by
  subst hn
  have hw : ∀ b, F b → w'.heap[b]? = w.heap[b]? := fun b h => hb.block b (hp.fb b h)
  refine ⟨(hp.grow hb).pushRow own pos cells one (fun j c u hc hu => (rel j c u hc hu).mono (fun _ x => x) hw) (fun b h hF => ?_) ?_, ?_, Ev.push _ _ _ _ hp.len, Kept.of_below hb, fun _ x => x, fun _ x => .inl x⟩
  · simp [blk] at h; subst h
    have := hp.fb _ hF; omega
  · intro id o v' b h1 h2 h3 h4 h5
    simp [blk] at h5; subst h5
    have := (hp.ownBlk h1 h2 h3 h4).2.1; omega
  · refine .ref _ _ _ _ _ _ ⟨.row T s 0 es, by simp, rfl, fun s' g' N' hv => ?_⟩
    simp [AO.view] at hv
    obtain ⟨rfl, rfl, rfl⟩ := hv
    refine ⟨Nat.le_refl _, fun _ => ⟨by omega, _, by rw [← hp.len]; simp, _, es.length, cap, _, rfl, rfl, by omega, fun _ => ⟨_, rfl, by simp [Addr.add_zero']⟩, fun _ => rfl⟩⟩

/-- A new row that nobody will write. -/
theorem newImm_ok (hp : HeapRep B F H ρ w) (hb : Below w.heap.size w w') {T s n cap : Nat} {es : List AV} {us : List Value} (hn : es.length = n)
    (own : w'.ownsRow B T s (.slice (some ⟨w.heap.size, 0, none⟩) n cap) n us) (pos : 0 < s) (cells : ∀ e ∈ es, e.cells.length = s) (one : ∀ u ∈ us, u.oneCell' = true)
    (rel : ∀ (j : Nat) (c : AV) (u : Value), (flat es)[j]? = some c → us[j]? = some u → IR F w c u) (hlt : w.heap.size < w'.heap.size) :
    Post B F H ρ w (.sl s es) H (.slice (some ⟨w.heap.size, 0, none⟩) n cap) w' ρ (fun b => F b ∨ b = w.heap.size) := by
  have key := newRow_ok hp hb hn own pos cells one rel
  obtain ⟨v, us', R⟩ := key.hp.row H.length T s 0 es (by simp)
  have hv : v = .slice (some ⟨w.heap.size, 0, none⟩) n cap := by
    have := R.at_
    rw [← hp.len] at this
    simpa using this.symm
  subst hv
  refine ⟨(hp.grow hb).addF hlt (fun id o v' h1 h2 h3 h4 => ?_), .imm (R.imm (fun _ x => .inl x) (fun b h => ?_)), Ev.refl _ _, Kept.of_below hb, fun _ x => .inl x, ?_⟩
  · have := (hp.ownBlk h1 h2 h3 h4).2.1; omega
  · simp [blk] at h; exact .inr h.symm
  · rintro b (h | rfl)
    · exact .inl h
    · exact .inr hp.base

/- composite values -/
theorem fold_spl (off : Nat) : ∀ (vs : List Value) (k : Nat) (cs : Array Value), off + k + vs.length ≤ cs.size →
    ((vs.zipIdx k).foldl (fun (cs : Array Value) (x : Value × Nat) => cs.setIfInBounds (off + x.2) x.1) cs).toList = spl cs.toList (off + k) vs
  | [], k, cs, _ => by simp [spl]
  | v :: r, k, cs, h => by
    simp only [List.length_cons] at h
    simp only [List.zipIdx_cons, List.foldl_cons]
    rw [fold_spl off r (k + 1) _ (by simp; omega)]
    apply List.ext_getElem?
    intro j
    rw [spl_get _ _ _ (by simp; omega), spl_get _ _ _ (by simp; omega)]
    simp only [Array.toList_setIfInBounds, List.length_cons]
    by_cases h1 : j < off + k
    · rw [if_pos (by omega), if_pos h1, getElem?_set_eq _ _ _ _ (by simp; omega), if_neg (by omega)]
    · rw [if_neg h1]
      by_cases h2 : j = off + k
      · subst h2
        rw [if_pos (by omega), if_pos (by omega), getElem?_set_eq _ _ _ _ (by simp; omega), if_pos rfl]
        simp
      · rw [if_neg (by omega)]
        by_cases h3 : j < off + k + (r.length + 1)
        · rw [if_pos (by omega), if_pos h3]
          have : j - (off + k) = (j - (off + (k + 1))) + 1 := by omega
          rw [this, List.getElem?_cons_succ]
        · rw [if_neg (by omega), if_neg h3, getElem?_set_eq _ _ _ _ (by simp; omega), if_neg (by omega)]

theorem fill_cons {place : Nat → Option (Nat × Nat)} {cs : Array Value} {i : Nat} {v : Value} {vs : List Value} {rest : List (Nat × Value)} {off size : Nat} (hp : place i = some (off, size)) (hv : v.cells = vs.toArray)
    (hs : vs.length = size) (hf : off + size ≤ cs.size) : Instr.fill place cs ((i, v) :: rest) = Instr.fill place (spl cs.toList off vs).toArray rest := by
  have hfold := fold_spl off vs 0 cs (by omega)
  simp only [Nat.add_zero] at hfold
  simp only [Instr.fill, hp, hv, List.size_toArray]
  rw [if_neg (by simp [hs]; omega)]
  congr 1
  apply Array.ext'
  rw [← hfold, ← Array.foldl_toList]
  simp

theorem parts_ok {pl : List (Nat × Nat)} (env : ∀ {x : Operand} {y : OP}, cOpd C x = some y → VR H ρ F w (y.ev e) (a.eval x)) : ∀ (ps : List (Nat × Operand)) (is : List (Nat × Nat × OP)) (cs : List AV) (us : List Value) (ds : List AV),
    cParts C pl ps = some is → fillParts e cs is = some ds → cs.length = us.length → (∀ u ∈ us, u.oneCell' = true) → (∀ (j : Nat) (c : AV) (u : Value), cs[j]? = some c → us[j]? = some u → VR H ρ F w c u) →
    ∃ vs : List Value, Instr.fill (pl.toArray[·]?) us.toArray (ps.map fun p => (p.1, a.eval p.2)) = some vs.toArray ∧ ds.length = vs.length ∧ (∀ u ∈ vs, u.oneCell' = true) ∧
      ∀ (j : Nat) (c : AV) (u : Value), ds[j]? = some c → vs[j]? = some u → VR H ρ F w c u
  | [], is, cs, us, ds, hc, hf, hl, h1, hr => by
    simp [cParts] at hc; subst hc
    simp [fillParts] at hf; subst hf
    exact ⟨us, rfl, hl, h1, hr⟩
  | (k, x) :: r, is, cs, us, ds, hc, hf, hl, h1, hr => by
    simp only [cParts] at hc
    cases hk : pl[k]? with
    | none => rw [hk] at hc; cases hc
    | some q =>
      rw [hk] at hc; simp only [Option.bind_some] at hc
      cases hx : cOpd C x with
      | none => rw [hx] at hc; cases hc
      | some o =>
        rw [hx] at hc; simp only [Option.bind_some] at hc
        cases hr' : cParts C pl r with
        | none => rw [hr'] at hc; cases hc
        | some l =>
          rw [hr'] at hc; simp at hc; subst hc
          simp only [fillParts] at hf
          split at hf
          case isFalse => cases hf
          rename_i hcond
          obtain ⟨hok, hlen, hfit⟩ := hcond
          obtain ⟨vs0, hv0, hl0, h10, hr0⟩ := (env hx).cells hok
          obtain ⟨vs, g1, g2, g3, g4⟩ := parts_ok env r l (spl cs q.1 (o.ev e).cells) (spl us q.1 vs0) ds hr' hf (by rw [spl_len _ _ _ (by omega), spl_len _ _ _ (by omega)]; exact hl)
            (fun u hu => (spl_mem hu).elim (h1 u) (h10 u)) (spl_rel hl hl0 (by omega) hr hr0)
          refine ⟨vs, ?_, g2, g3, g4⟩
          simp only [List.map_cons]
          rw [fill_cons (off := q.1) (size := q.2) (by simp [hk]) hv0 (by omega) (by simp; omega)]
          simpa using g1

theorem tyElem_spec {t : TypeId} {z : Nat × AV} (h : tyElem P t = some z) : ∃ i zv, P.info? t = some i ∧ i.zero = some zv ∧ cstV zv = some z.2 ∧ okCells z.2 = true ∧ 0 < i.size ∧ i.bytes ≤ 131072 ∧ i.size = z.1 ∧ z.2.cells.length = z.1 ∧ zv.cells.size = z.1 := by
  unfold tyElem at h
  cases hi : P.info? t with
  | none => rw [hi] at h; cases h
  | some i =>
    rw [hi] at h; simp only [Option.bind_some] at h
    cases hz : i.zero with
    | none => rw [hz] at h; cases h
    | some zv =>
      rw [hz] at h; simp only [Option.bind_some] at h
      cases hc : cstV zv with
      | none => rw [hc] at h; cases h
      | some c =>
        rw [hc] at h; simp only [Option.bind_some] at h
        split at h
        case isFalse => cases h
        rename_i hcond
        injection h with h; subst h
        exact ⟨i, zv, rfl, hz, hc, hcond.1, hcond.2.1, hcond.2.2.1, rfl, hcond.2.2.2.1, hcond.2.2.2.2⟩

/-- The zero value's cells. -/
theorem zero_cells {zv : Value} {c : AV} {s : Nat} (h : cstV zv = some c) (hok : okCells c = true) (hl : c.cells.length = s) (hz : zv.cells.size = s) : ∃ us : List Value, zv.cells = us.toArray ∧ us.length = s ∧ (∀ u ∈ us, u.oneCell' = true) ∧
    ∀ (j : Nat) (d : AV) (u : Value), c.cells[j]? = some d → us[j]? = some u → IR F w d u := by
  obtain ⟨hir, _⟩ := cstV_ir (F := F) (w := w) h
  by_cases hag : ∃ cs, c = .agg cs
  · obtain ⟨cs, rfl⟩ := hag
    cases hir with
    | agg _ us hl' h1 hr => exact ⟨us, rfl, by rw [← hl']; exact hl, h1, hr⟩
  · have hsc : scal c = true := by cases c <;> first | exact hok | exact absurd ⟨_, rfl⟩ hag
    have ho := (VR.imm (H := []) (ρ := []) hir).one hsc
    have hv : c.cells = [c] := by cases c <;> first | rfl | exact absurd ⟨_, rfl⟩ hag
    have hx : zv.cells = #[zv] := by cases zv <;> first | rfl | simp [Value.oneCell'] at ho
    refine ⟨[zv], by rw [hx], by rw [hv] at hl; simpa using hl, by simpa using ho, fun j d u hc hu => ?_⟩
    rw [hv] at hc
    cases j with
    | zero => simp at hc hu; subst hc hu; exact hir
    | succ j => simp at hc

/-- A row, one of whose elements is turned. -/
theorem rel_set {R : AV → Value → Prop} {s i : Nat} {es : List AV} {us vs : List Value} {e' : AV} (hs : 0 < s) (hcl : ∀ e ∈ es, e.cells.length = s) (hi : i < es.length) (he : e'.cells.length = s) (hvs : vs.length = s) (hus : us.length = es.length * s)
    (h1 : ∀ (j : Nat) (c : AV) (u : Value), (flat es)[j]? = some c → us[j]? = some u → R c u) (h2 : ∀ (j : Nat) (c : AV) (u : Value), e'.cells[j]? = some c → vs[j]? = some u → R c u) :
    (∀ e ∈ es.set i e', e.cells.length = s) ∧ ∀ (j : Nat) (c : AV) (u : Value), (flat (es.set i e'))[j]? = some c → (spl us (i * s) vs)[j]? = some u → R c u := by
  have hcl' : ∀ e ∈ es.set i e', e.cells.length = s := by
    intro e hm
    rcases List.mem_or_eq_of_mem_set hm with hm | hm
    · exact hcl e hm
    · rw [hm]; exact he
  refine ⟨hcl', fun j c u hc hu => ?_⟩
  have hmul : i * s + s ≤ es.length * s := by
    have := Nat.mul_le_mul_right s (Nat.succ_le_of_lt hi)
    rw [Nat.succ_mul] at this; exact this
  have hjlt : j < es.length * s := by
    have := lt_of_some hc
    rw [flat_len hcl', List.length_set] at this; exact this
  have hdm : j = j / s * s + j % s := by rw [Nat.mul_comm]; exact (Nat.div_add_mod j s).symm
  have hr' : j % s < s := Nat.mod_lt _ hs
  have hq' : j / s < es.length := Nat.div_lt_of_lt_mul (by rw [Nat.mul_comm]; exact hjlt)
  rw [hdm] at hc hu
  generalize j / s = qq at hc hu hq'
  generalize j % s = rr at hc hu hr'
  rw [spl_get _ _ _ (by omega)] at hu
  by_cases hqi : qq = i
  · subst hqi
    rw [flat_get hcl' (e := e') (by rw [getElem?_set_eq _ _ _ _ hi, if_pos rfl]) hr'] at hc
    rw [if_neg (by omega), if_pos (by omega)] at hu
    exact h2 rr c u hc (by rw [← hu]; congr 1; omega)
  · have hes : (es.set i e')[qq]? = some (es[qq]) := by
      rw [getElem?_set_eq _ _ _ _ hi, if_neg hqi]; exact List.getElem?_eq_getElem hq'
    rw [flat_get hcl' hes hr'] at hc
    refine h1 (qq * s + rr) c u (by rw [flat_get hcl (List.getElem?_eq_getElem hq') hr']; exact hc) ?_
    rcases Nat.lt_or_ge qq i with hh | hh
    · have := Nat.mul_le_mul_right s (Nat.succ_le_of_lt hh)
      rw [Nat.succ_mul] at this
      rw [if_pos (by omega)] at hu; exact hu
    · have hh' : i < qq := by omega
      have := Nat.mul_le_mul_right s (Nat.succ_le_of_lt hh')
      rw [Nat.succ_mul] at this
      rw [if_neg (by omega), if_neg (by omega)] at hu; exact hu

theorem made_rel {R : AV → Value → Prop} {s n : Nat} {za : AV} {zs : List Value} (hs : 0 < s) (hl : za.cells.length = s) (hz : zs.length = s)
    (hr : ∀ (j : Nat) (d : AV) (u : Value), za.cells[j]? = some d → zs[j]? = some u → R d u) :
    ∀ (j : Nat) (c : AV) (u : Value), (flat (List.replicate n za))[j]? = some c → (madeCells zs.toArray (n * s)).toList[j]? = some u → R c u := by
  intro j c u hc hu
  have hcl : ∀ e ∈ List.replicate n za, e.cells.length = s := fun e he => by rw [(List.mem_replicate.1 he).2]; exact hl
  have hjlt : j < n * s := by
    have := lt_of_some hc
    rw [flat_len hcl, List.length_replicate] at this; exact this
  have hr' : j % s < s := Nat.mod_lt _ hs
  have hq' : j / s < n := Nat.div_lt_of_lt_mul (by rw [Nat.mul_comm]; exact hjlt)
  have hdm : j = j / s * s + j % s := by rw [Nat.mul_comm]; exact (Nat.div_add_mod j s).symm
  have hc' : za.cells[j % s]? = some c := by
    rw [hdm, flat_get hcl (e := za) (by rw [List.getElem?_replicate, if_pos hq']) hr'] at hc
    exact hc
  refine hr (j % s) c u hc' ?_
  simp only [madeCells, Array.toList_map, Array.toList_range, List.getElem?_map, List.getElem?_range hjlt, Option.map_some, List.size_toArray, hz] at hu
  injection hu with hu
  rw [← hu]
  have h1 : j % s < zs.toArray.size := by simp [hz]; exact hr'
  rw [getElem!_pos zs.toArray (j % s) h1]
  simp [hz]

theorem conv1_row (hp : HeapRep B F H ρ w) {v : AV} (hv : VR H ρ F w v y) (hok : okCells v = true) (hF : ∀ b, F b → F' b)
    (hr : ∀ id T s g es v0 b, H[id]? = some (.row T s g es) → ρ[id]? = some v0 → blk v0 = some b → id ∈ refs1 v → F' b) :
    ∃ vs : List Value, y.cells = vs.toArray ∧ v.cells.length = vs.length ∧ (∀ u ∈ vs, u.oneCell' = true) ∧ ∀ (j : Nat) (c : AV) (u : Value), (conv1 H v).cells[j]? = some c → vs[j]? = some u → IR F' w c u := by
  obtain ⟨vs, hy, hvl, hv1, hvr⟩ := hv.cells hok
  have hci := conv1_ir hp hv hF hr
  have hcc := conv1_cells H v
  refine ⟨vs, hy, hvl, hv1, fun j c u hc hu => ?_⟩
  by_cases ha : ∃ cs, v = .agg cs
  · obtain ⟨cs, rfl⟩ := ha
    simp only [conv1] at hci hc
    cases hci with
    | agg _ us' hl' h1' hr' =>
      have : us' = vs := by
        have : (Value.agg us'.toArray).cells = vs.toArray := hy
        simpa [Value.cells] using this
      subst this
      exact hr' j c u hc hu
  · have hnc : (conv1 H v).cells = [conv1 H v] := by
      have hnot : ∀ cs, conv1 H v ≠ .agg cs := by
        intro cs hh
        cases v with
        | agg cs => exact ha ⟨_, rfl⟩
        | fn f cs => simp [conv1] at hh
        | ref id g o n =>
          simp only [conv1, conv0] at hh
          cases hrr : rdRow H id g <;> rw [hrr] at hh <;> cases hh
        | _ => simp [conv1, conv0] at hh
      cases hcv : conv1 H v with
      | agg cs => exact absurd hcv (hnot cs)
      | _ => rfl
    have hvs : vs = [y] := by
      have hone := hv.one (by cases v <;> first | exact hok | exact absurd ⟨_, rfl⟩ ha)
      have hyc : y.cells = #[y] := by cases y <;> first | rfl | simp [Value.oneCell'] at hone
      have := hyc.symm.trans hy
      simpa using this.symm
    rw [hnc] at hc
    rw [hvs] at hu
    cases j with
    | zero => simp at hc hu; subst hc hu; exact hci
    | succ j => simp at hc

theorem rowParts_ok (hp : HeapRep B F H ρ w) {s : Nat} (hs : 0 < s) (env : ∀ {x : Operand} {y : OP}, cOpd C x = some y → VR H ρ F w (y.ev e) (a.eval x)) (hF : ∀ b, F b → F' b) : ∀ (ps : List (Nat × Operand)) (is : List (Nat × OP)) (es : List AV) (us : List Value) (ds : List AV),
    cRowParts C ps = some is → fillRow s e H es is = some ds → (∀ id T s g es v0 b, H[id]? = some (.row T s g es) → ρ[id]? = some v0 → blk v0 = some b → id ∈ rowRefs e is → F' b) →
    (∀ e ∈ es, e.cells.length = s) → us.length = es.length * s → (∀ u ∈ us, u.oneCell' = true) → (∀ (j : Nat) (c : AV) (u : Value), (flat es)[j]? = some c → us[j]? = some u → IR F' w c u) →
    ∃ vs : List Value, Instr.fill (fun i => some (i * s, s)) us.toArray (ps.map fun p => (p.1, a.eval p.2)) = some vs.toArray ∧ ds.length = es.length ∧ (∀ e ∈ ds, e.cells.length = s) ∧ vs.length = ds.length * s ∧ (∀ u ∈ vs, u.oneCell' = true) ∧
      ∀ (j : Nat) (c : AV) (u : Value), (flat ds)[j]? = some c → vs[j]? = some u → IR F' w c u
  | [], is, es, us, ds, hc, hf, _, hcl, hl, h1, hr => by
    simp [cRowParts] at hc; subst hc
    simp [fillRow] at hf; subst hf
    exact ⟨us, rfl, rfl, hcl, hl, h1, hr⟩
  | (k, x) :: r, is, es, us, ds, hc, hf, href, hcl, hl, h1, hr => by
    simp only [cRowParts] at hc
    cases hx : cOpd C x with
    | none => rw [hx] at hc; cases hc
    | some o =>
      rw [hx] at hc; simp only [Option.bind_some] at hc
      cases hr' : cRowParts C r with
      | none => rw [hr'] at hc; cases hc
      | some l =>
        rw [hr'] at hc; simp at hc; subst hc
        simp only [fillRow] at hf
        split at hf
        case isFalse => cases hf
        rename_i hcond
        obtain ⟨hok, hlen, hfit⟩ := hcond
        obtain ⟨vs0, hv0, hl0, h10, hr0⟩ := conv1_row hp (env hx) hok hF (fun id T s g es v0 b a1 a2 a3 a4 => href id T s g es v0 b a1 a2 a3 (by simp [rowRefs, a4]))
        obtain ⟨q1, q2⟩ := rel_set (R := IR F' w) hs hcl hfit (by rw [conv1_cells]; exact hlen) (by omega) hl hr hr0
        have hmul : k * s + s ≤ es.length * s := by
          have := Nat.mul_le_mul_right s (Nat.succ_le_of_lt hfit)
          rw [Nat.succ_mul] at this; exact this
        obtain ⟨vs, g1, g2, g3, g4, g5, g6⟩ := rowParts_ok hp hs env hF r l (es.set k (conv1 H (o.ev e))) (spl us (k * s) vs0) ds hr' hf (fun id T s g es v0 b a1 a2 a3 a4 => href id T s g es v0 b a1 a2 a3 (by simp [rowRefs, a4])) q1
          (by rw [spl_len _ _ _ (by omega), List.length_set]; exact hl) (fun u hu => (spl_mem hu).elim (h1 u) (h10 u)) q2
        refine ⟨vs, ?_, by rw [g2, List.length_set], g3, g4, g5, g6⟩
        simp only [List.map_cons]
        rw [fill_cons (off := k * s) (size := s) rfl hv0 (by omega) (by simp; omega)]
        simpa using g1

theorem bldTy_form {P : Program} {t : TypeId} {z : Nat × AV} {el : Nat} (h : bldTy P t z = some el) : z.2 = .agg [.nilp, .e0] := by
  unfold bldTy at h
  split at h
  · rfl
  · cases h
theorem cst0_nilp {v : Value} (h : cstV0 v = some .nilp) : v = .pointer none := by
  unfold cstV0 at h
  split at h <;> first | (injection h with h; cases h; done) | rfl | cases h
theorem cst0_e0 {v : Value} (h : cstV0 v = some .e0) : v = .slice none 0 0 := by
  unfold cstV0 at h
  split at h <;> first | (injection h with h; cases h; done) | rfl | cases h
theorem cst_bld {zv : Value} (h : cstV zv = some (.agg [.nilp, .e0])) : zv = .agg #[.pointer none, .slice none 0 0] := by
  unfold cstV at h
  split at h
  · rename_i cs
    obtain ⟨l, hl, h⟩ := Option.map_eq_some_iff.1 h
    injection h with h
    subst h
    obtain ⟨cs⟩ := cs
    match cs, hl with
    | [], hl => simp [cstL] at hl
    | v :: [], hl =>
      simp only [cstL] at hl
      obtain ⟨a, _, hl⟩ := Option.bind_eq_some_iff.1 hl
      simp at hl
    | v :: u :: r, hl =>
      simp only [cstL] at hl
      obtain ⟨a, ha, hl⟩ := Option.bind_eq_some_iff.1 hl
      obtain ⟨m, hm, hl⟩ := Option.map_eq_some_iff.1 hl
      obtain ⟨b, hb, hm⟩ := Option.bind_eq_some_iff.1 hm
      obtain ⟨m2, hm2, hm⟩ := Option.map_eq_some_iff.1 hm
      injection hl with e1 e2
      subst e1 e2
      injection hm with e3 e4
      subst e3 e4
      rw [cst0_nilp ha, cst0_e0 hb]
      cases r with
      | nil => rfl
      | cons x r =>
        simp only [cstL] at hm2
        obtain ⟨_, _, hm2⟩ := Option.bind_eq_some_iff.1 hm2
        simp at hm2
  · cases h
  · rename_i h1 h2
    unfold cstV0 at h
    split at h <;> first | (injection h with h; cases h; done) | cases h
/-- a new builder: its row is nil -/
theorem newBld (hp : HeapRep B F H ρ w) {T el : Nat} :
    Post B F H ρ w (.bptr (H.length + 1) 0) (H ++ [.row el 1 0 [], .box T 2 (.agg [.nilp, .ref H.length 0 0 0])]) (.pointer (some ⟨w.heap.size, 0, none⟩)) (w.alloc (.cells [.pointer none, .slice none 0 0].toArray T)) ((ρ ++ [.slice none 0 0]) ++ [.pointer (some ⟨w.heap.size, 0, none⟩)]) F := by
  have hp1 : HeapRep B F (H ++ [.row el 1 0 []]) (ρ ++ [.slice none 0 0]) w := hp.pushRow (World.ownsRow_nil w B el 1) (by omega) (by simp) (us := []) (by simp) (fun j c u hc => by simp [flat] at hc) (fun b hb => by simp [blk] at hb) (fun _ _ _ _ _ _ _ _ hb => by simp [blk] at hb)
  have hv : VR (H ++ [.row el 1 0 []]) (ρ ++ [.slice none 0 0]) F w (.ref H.length 0 0 0) (.slice none 0 0) := by
    refine .ref _ _ _ _ _ _ ⟨.row el 1 0 [], by simp, rfl, fun s' g' N' hv => ?_⟩
    simp [AO.view] at hv
    obtain ⟨rfl, rfl, rfl⟩ := hv
    exact ⟨Nat.le_refl _, fun _ => ⟨by omega, _, by rw [← hp.len]; simp, none, 0, 0, none, rfl, rfl, by omega, fun h => absurd h (by omega), fun _ => rfl⟩⟩
  have key := newBox hp1 (T := T) (s := 2) (el := .agg [.nilp, .ref H.length 0 0 0]) (us := [.pointer none, .slice none 0 0]) rfl rfl (by simp [Value.oneCell']) (fun j c u hc hu => by
    match j, hc, hu with
    | 0, hc, hu => simp [AV.cells] at hc hu; subst hc hu; exact .imm .nilp
    | 1, hc, hu => simp [AV.cells] at hc hu; subst hc hu; exact hv
    | j + 2, hc, hu => simp [AV.cells] at hc)
  have e1 : (H ++ [AO.row el 1 0 []]).length = H.length + 1 := by simp
  rw [e1, List.append_assoc] at key
  exact ⟨key.hp, key.val, (Ev.push H ρ [.row el 1 0 []] [.slice none 0 0] hp.len).trans (by simpa using key.ev), key.kept, key.sub, key.bnd⟩

end
end Go.PI
