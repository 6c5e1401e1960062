/- The frame's rows and variables in memory: new ones, turned ones, frozen ones. No condition. -/
import Derived.Test.YtpphfbfmoipoaaaDoorPi3
namespace Go.PI
open Go.RowKit

theorem lt_of_some {α : Type} {l : List α} {i : Nat} {x : α} (h : l[i]? = some x) : i < l.length := by
  rcases Nat.lt_or_ge i l.length with h1 | h1
  · exact h1
  · rw [List.getElem?_eq_none h1] at h; cases h

theorem heap_lt {w : World} {b : Nat} {o : Obj} (h : w.heap[b]? = some o) : b < w.heap.size := by
  rcases Nat.lt_or_ge b w.heap.size with h1 | h1
  · exact h1
  · rw [Array.getElem?_eq_none h1] at h; cases h

theorem add_block (a : Addr) (n : Nat) : (a.add n).block = a.block := by unfold Addr.add; split <;> rfl
theorem add_add' (a : Addr) (i j : Nat) : (a.add i).add j = a.add (i + j) := by
  unfold Addr.add
  by_cases hi : i = 0 <;> by_cases hj : j = 0 <;> simp [hi, hj, Nat.add_assoc]

theorem grownBy_of_below {w w' : World} (h : Below w.heap.size w w') (row : Option Nat) : w.grownBy w' row := ⟨h.os, h.tape, h.output, h.size, fun i hi _ => h.block i hi⟩

theorem blk_own {v : Value} {b : Nat} (h : v.ownBlock = some b) : blk v = some b := by
  cases v <;> simp [Value.ownBlock] at h
  rename_i a _ _; cases a <;> simp [Value.ownBlock] at h; simp [blk, h]

theorem ownsRow_blk {w : World} {B T s : Nat} {v : Value} {n : Nat} {us : List Value} (h : w.ownsRow B T s v n us) : blk v = v.ownBlock := by
  rcases h.2 with ⟨rfl, _⟩ | ⟨g, cap, cur, rfl, _⟩ <;> rfl

theorem ownsRow_same {w w' : World} {B T s : Nat} {v : Value} {n : Nat} {us : List Value} (h : w.ownsRow B T s v n us) (hb : ∀ b, blk v = some b → w'.heap[b]? = w.heap[b]?) : w'.ownsRow B T s v n us := by
  refine ⟨h.1, ?_⟩
  rcases h.2 with hn | ⟨g, cap, cur, rfl, hbg, hg, rest⟩
  · exact .inl hn
  · exact .inr ⟨g, cap, cur, rfl, hbg, by rw [hb g rfl]; exact hg, rest⟩

theorem ownsRow_lt {w : World} {B T s : Nat} {v : Value} {n : Nat} {us : List Value} (h : w.ownsRow B T s v n us) {b : Nat} (hb : blk v = some b) : B ≤ b ∧ b < w.heap.size :=
  h.lt b (by rw [← ownsRow_blk h]; exact hb)

section
variable {B : Nat} {F F' : Nat → Prop} {H H' : List AO} {ρ ρ' : List Value} {w w' : World}

theorem RowRep.turn {id T s : Nat} {es : List AV} {v : Value} {us : List Value} (h : RowRep B ρ F w id T s es v us) (hρ : ρ'[id]? = ρ[id]?)
    (hF : ∀ b, F b → F' b) (hw : ∀ b, F b → w'.heap[b]? = w.heap[b]?) (hb : ∀ b, blk v = some b → w'.heap[b]? = w.heap[b]? ∧ ¬ F' b) : RowRep B ρ' F' w' id T s es v us :=
  ⟨hρ.trans h.at_, ownsRow_same h.own (fun b e => (hb b e).1), h.pos, h.cells, h.one, fun j c u hc hu => (h.rel j c u hc hu).mono hF hw, fun b e => (hb b e).2⟩

theorem BoxRep.turn {id T s : Nat} {e : AV} {b : Nat} {us : List Value} (h : BoxRep B H ρ F w id T s e b us) (hρ : ρ'[id]? = ρ[id]?) (ev : Ev H ρ H' ρ')
    (hF : ∀ b, F b → F' b) (hw : ∀ b, F b → w'.heap[b]? = w.heap[b]?) (hb : w'.heap[b]? = w.heap[b]? ∧ ¬ F' b) : BoxRep B H' ρ' F' w' id T s e b us :=
  ⟨hρ.trans h.at_, hb.1.trans h.own, h.base, h.cells, h.len, h.one, fun j c u hc hu => (h.rel j c u hc hu).mono ev hF hw, hb.2⟩

theorem RRep.turn {id T s : Nat} {es : List AV} {v : Value} {us : List Value} (h : RRep B H ρ F w id T s es v us) (hρ : ρ'[id]? = ρ[id]?) (ev : Ev H ρ H' ρ')
    (hF : ∀ b, F b → F' b) (hw : ∀ b, F b → w'.heap[b]? = w.heap[b]?) (hb : ∀ b, blk v = some b → w'.heap[b]? = w.heap[b]? ∧ ¬ F' b) : RRep B H' ρ' F' w' id T s es v us :=
  ⟨hρ.trans h.at_, ownsRow_same h.own (fun b e => (hb b e).1), h.pos, h.cells, h.one, fun j c u hc hu => (h.rel j c u hc hu).mono ev hF hw, fun b e => (hb b e).2⟩

theorem HeapRep.rrBlk (h : HeapRep B F H ρ w) {id T s g : Nat} {es : List AV} {v : Value} {b : Nat} (hr : H[id]? = some (.rr T s g es)) (hv : ρ[id]? = some v) (hb : blk v = some b) : B ≤ b ∧ b < w.heap.size ∧ ¬ F b := by
  obtain ⟨v', us, R⟩ := h.rr _ _ _ _ _ hr
  have : v' = v := by have := R.at_.symm.trans hv; simpa using this
  subst this
  exact ⟨(ownsRow_lt R.own hb).1, (ownsRow_lt R.own hb).2, R.free b hb⟩

theorem HeapRep.rowBlk (h : HeapRep B F H ρ w) {id T s g : Nat} {es : List AV} {v : Value} {b : Nat} (hr : H[id]? = some (.row T s g es)) (hv : ρ[id]? = some v) (hb : blk v = some b) : B ≤ b ∧ b < w.heap.size ∧ ¬ F b := by
  obtain ⟨v', us, R⟩ := h.row _ _ _ _ _ hr
  have : v' = v := by have := R.at_.symm.trans hv; simpa using this
  subst this
  exact ⟨(ownsRow_lt R.own hb).1, (ownsRow_lt R.own hb).2, R.free b hb⟩

theorem HeapRep.boxBlk (h : HeapRep B F H ρ w) {id T s : Nat} {e : AV} {v : Value} {b : Nat} (hr : H[id]? = some (.box T s e)) (hv : ρ[id]? = some v) (hb : blk v = some b) : B ≤ b ∧ b < w.heap.size ∧ ¬ F b := by
  obtain ⟨b', us, R⟩ := h.box _ _ _ _ hr
  have h1 : .pointer (some ⟨b', 0, none⟩) = v := by have := R.at_.symm.trans hv; simpa using this
  subst h1
  simp [blk] at hb; subst hb
  exact ⟨R.base, heap_lt R.own, R.free⟩

theorem OD.blk_handle (d : OD) (b c : Nat) : blk (d.handle b c) = some b := by cases d <;> rfl

theorem HeapRep.objBlk (h : HeapRep B F H ρ w) {id : Nat} {d : OD} {v : Value} {b : Nat} (hr : H[id]? = some (.obj d)) (hv : ρ[id]? = some v) (hb : blk v = some b) : B ≤ b ∧ b < w.heap.size ∧ ¬ F b := by
  obtain ⟨b', c', R⟩ := h.obj _ _ hr
  have h1 : d.handle b' c' = v := by have := R.at_.symm.trans hv; simpa using this
  subst h1
  rw [OD.blk_handle] at hb
  injection hb with hb; subst hb
  exact ⟨R.base, R.lt, R.free⟩

theorem ObjRep.turn {id : Nat} {d : OD} {b c : Nat} (h : ObjRep B ρ F w id d b c) (hρ : ρ'[id]? = ρ[id]?) (hs : w.heap.size ≤ w'.heap.size) (hb : w'.heap[b]? = w.heap[b]? ∧ ¬ F' b) : ObjRep B ρ' F' w' id d b c :=
  ⟨hρ.trans h.at_, by rw [hb.1]; exact h.own, h.base, Nat.lt_of_lt_of_le h.lt hs, hb.2⟩

theorem HeapRep.ownBlk (h : HeapRep B F H ρ w) {id : Nat} {o : AO} {v : Value} {b : Nat} (hr : H[id]? = some o) (ho : o.own = true) (hv : ρ[id]? = some v) (hb : blk v = some b) : B ≤ b ∧ b < w.heap.size ∧ ¬ F b := by
  cases o with
  | row T s g es => exact h.rowBlk hr hv hb
  | box T s e => exact h.boxBlk hr hv hb
  | obj d => exact h.objBlk hr hv hb
  | rr T s g es => exact h.rrBlk hr hv hb
  | fz => simp [AO.own] at ho
  | rsv => simp [AO.own] at ho
  | gone => simp [AO.own] at ho

/-- Nothing that was there has turned. -/
theorem HeapRep.grow (h : HeapRep B F H ρ w) (g : Below w.heap.size w w') : HeapRep B F H ρ w' := by
  have hw : ∀ b, F b → w'.heap[b]? = w.heap[b]? := fun b hb => g.block b (h.fb b hb)
  refine ⟨h.len, Nat.le_trans h.base g.size, fun b hb => Nat.lt_of_lt_of_le (h.fb b hb) g.size, ?_, ?_, ?_, ?_, ?_, h.dist⟩
  · intro id T s gg es hr
    obtain ⟨v, us, R⟩ := h.row _ _ _ _ _ hr
    exact ⟨v, us, R.turn rfl (fun _ x => x) hw (fun b hb => ⟨g.block b (ownsRow_lt R.own hb).2, R.free b hb⟩)⟩
  · intro id T s e hr
    obtain ⟨b, us, R⟩ := h.box _ _ _ _ hr
    exact ⟨b, us, R.turn rfl (Ev.refl _ _) (fun _ x => x) hw ⟨g.block b (heap_lt R.own), R.free⟩⟩
  · intro id s gg es hr
    obtain ⟨v, hv, hi⟩ := h.fz _ _ _ _ hr
    exact ⟨v, hv, hi.mono (fun _ x => x) hw⟩
  · intro id d hr
    obtain ⟨b, c9, R⟩ := h.obj _ _ hr
    exact ⟨b, c9, R.turn rfl g.size ⟨g.block b R.lt, R.free⟩⟩
  · intro id T s gg es hr
    obtain ⟨v, us, R⟩ := h.rr _ _ _ _ _ hr
    exact ⟨v, us, R.turn rfl (Ev.refl _ _) (fun _ x => x) hw (fun b hb => ⟨g.block b (ownsRow_lt R.own hb).2, R.free b hb⟩)⟩

theorem getElem?_snoc {α : Type} (l : List α) (x : α) (i : Nat) : (l ++ [x])[i]? = if i = l.length then some x else l[i]? := by
  split
  · rename_i h; subst h; simp
  · rename_i h
    rcases Nat.lt_or_ge i l.length with h1 | h1
    · rw [List.getElem?_append_left h1]
    · rw [List.getElem?_eq_none (by simp; omega), List.getElem?_eq_none h1]

/-- A new row of the frame. -/
theorem HeapRep.pushRow (h : HeapRep B F H ρ w) {T s g : Nat} {es : List AV} {v : Value} {us : List Value}
    (own : w.ownsRow B T s v es.length us) (pos : 0 < s) (cells : ∀ e ∈ es, e.cells.length = s) (one : ∀ u ∈ us, u.oneCell' = true)
    (rel : ∀ (j : Nat) (c : AV) (u : Value), (flat es)[j]? = some c → us[j]? = some u → IR F w c u) (free : ∀ b, blk v = some b → ¬ F b)
    (new : ∀ (id : Nat) (o : AO) (v' : Value) (b : Nat), H[id]? = some o → o.own = true → ρ[id]? = some v' → blk v' = some b → blk v ≠ some b) :
    HeapRep B F (H ++ [.row T s g es]) (ρ ++ [v]) w := by
  have hl := h.len
  have ev := Ev.push H ρ [.row T s g es] [v] h.len
  have old : ∀ id, id < H.length → (ρ ++ [v])[id]? = ρ[id]? := fun id hid => List.getElem?_append_left (by omega)
  refine ⟨by simp [hl], h.base, h.fb, ?_, ?_, ?_, ?_, ?_, ?_⟩
  · intro id T' s' g' es' hr
    rw [getElem?_snoc] at hr
    split at hr
    · rename_i hid; subst hid
      injection hr with hr; injection hr with h1 h2 h3 h4; subst h1 h2 h3 h4
      exact ⟨v, us, by rw [← hl]; simp, own, pos, cells, one, rel, free⟩
    · obtain ⟨v', us', R⟩ := h.row _ _ _ _ _ hr
      exact ⟨v', us', R.turn (old id (lt_of_some hr)) (fun _ x => x) (fun _ _ => rfl) (fun b hb => ⟨rfl, R.free b hb⟩)⟩
  · intro id T' s' e hr
    rw [getElem?_snoc] at hr
    split at hr
    · cases hr
    · obtain ⟨b, us', R⟩ := h.box _ _ _ _ hr
      exact ⟨b, us', R.turn (old id (lt_of_some hr)) ev (fun _ x => x) (fun _ _ => rfl) ⟨rfl, R.free⟩⟩
  · intro id s' g' es' hr
    rw [getElem?_snoc] at hr
    split at hr
    · cases hr
    · obtain ⟨v', hv, hi⟩ := h.fz _ _ _ _ hr
      exact ⟨v', (old id (lt_of_some hr)).trans hv, hi⟩
  · intro id d hr
    rw [getElem?_snoc] at hr
    split at hr
    · cases hr
    · obtain ⟨b1, c9, R⟩ := h.obj _ _ hr
      exact ⟨b1, c9, R.turn (old id (lt_of_some hr)) (Nat.le_refl _) ⟨rfl, R.free⟩⟩
  · intro id T' s' g' es' hr
    rw [getElem?_snoc] at hr
    split at hr
    · cases hr
    · obtain ⟨v', us', R⟩ := h.rr _ _ _ _ _ hr
      exact ⟨v', us', R.turn (old id (lt_of_some hr)) ev (fun _ x => x) (fun _ _ => rfl) (fun b hb => ⟨rfl, R.free b hb⟩)⟩
  · intro id id' o o' v1 v2 b h1 h2 o1 o2 r1 r2 b1 b2
    rw [getElem?_snoc] at h1 h2 r1 r2
    rw [hl] at r1 r2
    split at h1
    · split at h2
      · omega
      · rw [if_pos (by assumption)] at r1; rw [if_neg (by assumption)] at r2
        injection r1 with r1; subst r1
        exact absurd b1 (new id' o' v2 b h2 o2 r2 b2)
    · split at h2
      · rw [if_neg (by assumption)] at r1; rw [if_pos (by assumption)] at r2
        injection r2 with r2; subst r2
        exact absurd b2 (new id o v1 b h1 o1 r1 b1)
      · rw [if_neg (by assumption)] at r1; rw [if_neg (by assumption)] at r2
        exact h.dist id id' o o' v1 v2 b h1 h2 o1 o2 r1 r2 b1 b2

/-- A new variable of the frame. -/
theorem HeapRep.pushBox (h : HeapRep B F H ρ w) {T s b : Nat} {e : AV} {us : List Value}
    (own : w.heap[b]? = some (.cells us.toArray T (0, 0))) (base : B ≤ b) (cells : e.cells.length = s) (len : us.length = s) (one : ∀ u ∈ us, u.oneCell' = true)
    (rel : ∀ (j : Nat) (c : AV) (u : Value), e.cells[j]? = some c → us[j]? = some u → VR H ρ F w c u) (free : ¬ F b)
    (new : ∀ (id : Nat) (o : AO) (v' : Value), H[id]? = some o → o.own = true → ρ[id]? = some v' → blk v' ≠ some b) :
    HeapRep B F (H ++ [.box T s e]) (ρ ++ [.pointer (some ⟨b, 0, none⟩)]) w := by
  have hl := h.len
  have ev := Ev.push H ρ [.box T s e] [.pointer (some ⟨b, 0, none⟩)] h.len
  have old : ∀ id, id < H.length → (ρ ++ [Value.pointer (some ⟨b, 0, none⟩)])[id]? = ρ[id]? := fun id hid => List.getElem?_append_left (by omega)
  refine ⟨by simp [hl], h.base, h.fb, ?_, ?_, ?_, ?_, ?_, ?_⟩
  · intro id T' s' g' es' hr
    rw [getElem?_snoc] at hr
    split at hr
    · cases hr
    · obtain ⟨v', us', R⟩ := h.row _ _ _ _ _ hr
      exact ⟨v', us', R.turn (old id (lt_of_some hr)) (fun _ x => x) (fun _ _ => rfl) (fun b hb => ⟨rfl, R.free b hb⟩)⟩
  · intro id T' s' e' hr
    rw [getElem?_snoc] at hr
    split at hr
    · rename_i hid; subst hid
      injection hr with hr; injection hr with h1 h2 h3; subst h1 h2 h3
      exact ⟨b, us, by rw [← hl]; simp, own, base, cells, len, one, fun j c u hc hu => (rel j c u hc hu).mono ev (fun _ x => x) (fun _ _ => rfl), free⟩
    · obtain ⟨b', us', R⟩ := h.box _ _ _ _ hr
      exact ⟨b', us', R.turn (old id (lt_of_some hr)) ev (fun _ x => x) (fun _ _ => rfl) ⟨rfl, R.free⟩⟩
  · intro id s' g' es' hr
    rw [getElem?_snoc] at hr
    split at hr
    · cases hr
    · obtain ⟨v', hv, hi⟩ := h.fz _ _ _ _ hr
      exact ⟨v', (old id (lt_of_some hr)).trans hv, hi⟩
  · intro id d hr
    rw [getElem?_snoc] at hr
    split at hr
    · cases hr
    · obtain ⟨b1, c9, R⟩ := h.obj _ _ hr
      exact ⟨b1, c9, R.turn (old id (lt_of_some hr)) (Nat.le_refl _) ⟨rfl, R.free⟩⟩
  · intro id T' s' g' es' hr
    rw [getElem?_snoc] at hr
    split at hr
    · cases hr
    · obtain ⟨v', us', R⟩ := h.rr _ _ _ _ _ hr
      exact ⟨v', us', R.turn (old id (lt_of_some hr)) ev (fun _ x => x) (fun _ _ => rfl) (fun b hb => ⟨rfl, R.free b hb⟩)⟩
  · intro id id' o o' v1 v2 b0 h1 h2 o1 o2 r1 r2 b1 b2
    rw [getElem?_snoc] at h1 h2 r1 r2
    rw [hl] at r1 r2
    split at h1
    · split at h2
      · omega
      · rw [if_pos (by assumption)] at r1; rw [if_neg (by assumption)] at r2
        injection r1 with r1; subst r1
        simp [blk] at b1; subst b1
        exact absurd b2 (new id' o' v2 h2 o2 r2)
    · split at h2
      · rw [if_neg (by assumption)] at r1; rw [if_pos (by assumption)] at r2
        injection r2 with r2; subst r2
        simp [blk] at b2; subst b2
        exact absurd b1 (new id o v1 h1 o1 r1)
      · rw [if_neg (by assumption)] at r1; rw [if_neg (by assumption)] at r2
        exact h.dist id id' o o' v1 v2 b0 h1 h2 o1 o2 r1 r2 b1 b2

theorem getElem?_set_eq {α : Type} (l : List α) (i j : Nat) (x : α) (hi : i < l.length) : (l.set i x)[j]? = if j = i then some x else l[j]? := by
  rw [List.getElem?_set]
  by_cases h : i = j
  · subst h; simp [hi]
  · simp [h, Ne.symm h]

/-- One row (or variable) of the frame is turned, in its own block or into a new one. -/
theorem HeapRep.setObj (h : HeapRep B F H ρ w) {id : Nat} {o o' : AO} {v v' : Value} (hid : H[id]? = some o) (ho : o.own = true) (ho' : o'.own = true) (hv : ρ[id]? = some v)
    (hg : w.grownBy w' (blk v)) (hvb : blk v' = blk v ∨ ∀ b, blk v' = some b → w.heap.size ≤ b)
    (ev : Ev H ρ (H.set id o') (ρ.set id v'))
    (hrow : ∀ T s g es, o' = .row T s g es → ∃ us, RowRep B (ρ.set id v') F w' id T s es v' us)
    (hbox : ∀ T s e, o' = .box T s e → ∃ b us, BoxRep B (H.set id o') (ρ.set id v') F w' id T s e b us)
    (hobj : ∀ d, o' = .obj d → ∃ b c, ObjRep B (ρ.set id v') F w' id d b c)
    (hrr : ∀ T s g es, o' = .rr T s g es → ∃ us, RRep B (H.set id o') (ρ.set id v') F w' id T s es v' us := by intro _ _ _ _ h; cases h) :
    HeapRep B F (H.set id o') (ρ.set id v') w' ∧ Kept B F w w' := by
  have hl := h.len
  have hlt := lt_of_some hid
  have hltρ : id < ρ.length := by omega
  have hown : ∀ b, blk v = some b → B ≤ b ∧ b < w.heap.size ∧ ¬ F b := fun b hb => h.ownBlk hid ho hv hb
  have hw : ∀ b, F b → w'.heap[b]? = w.heap[b]? := fun b hb => hg.block b (h.fb b hb) (fun e => (hown b e.symm).2.2 hb)
  have other : ∀ (id' : Nat) (o1 : AO) (v1 : Value) (b : Nat), id' ≠ id → H[id']? = some o1 → o1.own = true → ρ[id']? = some v1 → blk v1 = some b → w'.heap[b]? = w.heap[b]? := by
    intro id' o1 v1 b hne h1 h2 h3 h4
    refine hg.block b (h.ownBlk h1 h2 h3 h4).2.1 (fun e => hne ?_)
    exact h.dist id' id o1 o v1 v b h1 hid h2 ho h3 hv h4 e.symm
  refine ⟨⟨by simp [hl], Nat.le_trans h.base hg.size, fun b hb => Nat.lt_of_lt_of_le (h.fb b hb) hg.size, ?_, ?_, ?_, ?_, ?_, ?_⟩,
    ⟨hg.os, hg.tape, hg.output, hg.size, fun k hk hc => hg.block k hk (fun e => ?_)⟩⟩
  · intro id' T s g es hr
    rw [getElem?_set_eq _ _ _ _ hlt] at hr
    split at hr
    · rename_i e; subst e
      injection hr with hr
      obtain ⟨us, R⟩ := hrow _ _ _ _ hr
      exact ⟨v', us, R⟩
    · rename_i hne
      obtain ⟨v1, us, R⟩ := h.row _ _ _ _ _ hr
      refine ⟨v1, us, R.turn (by rw [getElem?_set_eq _ _ _ _ hltρ, if_neg hne]) (fun _ x => x) hw (fun b hb => ⟨other id' _ v1 b hne hr rfl R.at_ hb, R.free b hb⟩)⟩
  · intro id' T s e hr
    rw [getElem?_set_eq _ _ _ _ hlt] at hr
    split at hr
    · rename_i e0; subst e0
      injection hr with hr
      exact hbox _ _ _ hr
    · rename_i hne
      obtain ⟨b, us, R⟩ := h.box _ _ _ _ hr
      exact ⟨b, us, R.turn (by rw [getElem?_set_eq _ _ _ _ hltρ, if_neg hne]) ev (fun _ x => x) hw ⟨other id' _ _ b hne hr rfl R.at_ rfl, R.free⟩⟩
  · intro id' s g es hr
    rw [getElem?_set_eq _ _ _ _ hlt] at hr
    split at hr
    · injection hr with hr; subst hr; simp [AO.own] at ho'
    · rename_i hne
      obtain ⟨v1, hv1, hi⟩ := h.fz _ _ _ _ hr
      exact ⟨v1, by rw [getElem?_set_eq _ _ _ _ hltρ, if_neg hne]; exact hv1, hi.mono (fun _ x => x) hw⟩
  · intro id' d hr
    rw [getElem?_set_eq _ _ _ _ hlt] at hr
    split at hr
    · rename_i e0; subst e0
      injection hr with hr
      exact hobj _ hr
    · rename_i hne
      obtain ⟨b, c0, R⟩ := h.obj _ _ hr
      exact ⟨b, c0, R.turn (by rw [getElem?_set_eq _ _ _ _ hltρ, if_neg hne]) hg.size ⟨other id' _ _ b hne hr rfl R.at_ (OD.blk_handle d b c0), R.free⟩⟩
  · intro id' T s g es hr
    rw [getElem?_set_eq _ _ _ _ hlt] at hr
    split at hr
    · rename_i e; subst e
      injection hr with hr
      obtain ⟨us, R⟩ := hrr _ _ _ _ hr
      exact ⟨v', us, R⟩
    · rename_i hne
      obtain ⟨v1, us, R⟩ := h.rr _ _ _ _ _ hr
      refine ⟨v1, us, R.turn (by rw [getElem?_set_eq _ _ _ _ hltρ, if_neg hne]) ev (fun _ x => x) hw (fun b hb => ⟨other id' _ v1 b hne hr rfl R.at_ hb, R.free b hb⟩)⟩
  · intro i1 i2 o1 o2 v1 v2 b h1 h2 p1 p2 r1 r2 b1 b2
    rw [getElem?_set_eq _ _ _ _ hlt] at h1 h2
    rw [getElem?_set_eq _ _ _ _ hltρ] at r1 r2
    have key : ∀ (i : Nat) (oo : AO) (vv : Value), i ≠ id → H[i]? = some oo → oo.own = true → ρ[i]? = some vv → blk vv = some b → blk v' = some b → i = id := by
      intro i oo vv hne q1 q2 q3 q4 q5
      rcases hvb with e | e
      · exact h.dist i id oo o vv v b q1 hid q2 ho q3 hv q4 (by rw [← e]; exact q5)
      · have := (h.ownBlk q1 q2 q3 q4).2.1
        have := e b q5
        omega
    split at h1
    · split at h2
      · omega
      · rename_i e1 e2
        rw [if_pos e1] at r1; rw [if_neg e2] at r2
        injection r1 with r1; subst r1
        exact absurd (key i2 o2 v2 e2 h2 p2 r2 b2 b1) e2
    · split at h2
      · rename_i e1 e2
        rw [if_neg e1] at r1; rw [if_pos e2] at r2
        injection r2 with r2; subst r2
        exact absurd (key i1 o1 v1 e1 h1 p1 r1 b1 b2) e1
      · rename_i e1 e2
        rw [if_neg e1] at r1; rw [if_neg e2] at r2
        exact h.dist i1 i2 o1 o2 v1 v2 b h1 h2 p1 p2 r1 r2 b1 b2
  · rcases hc with hc | hc
    · have := (hown k e.symm).1; omega
    · exact (hown k e.symm).2.2 hc

/-- A block that is nobody's is set down as one that nobody writes. -/
theorem HeapRep.addF (h : HeapRep B F H ρ w) {b0 : Nat} (hb : b0 < w.heap.size) (hn : ∀ (id : Nat) (o : AO) (v : Value), H[id]? = some o → o.own = true → ρ[id]? = some v → blk v ≠ some b0) :
    HeapRep B (fun b => F b ∨ b = b0) H ρ w := by
  refine ⟨h.len, h.base, ?_, ?_, ?_, ?_, ?_, ?_, h.dist⟩
  · rintro b (hb' | rfl)
    · exact h.fb b hb'
    · exact hb
  · intro id T s g es hr
    obtain ⟨v, us, R⟩ := h.row _ _ _ _ _ hr
    refine ⟨v, us, R.turn rfl (fun _ x => .inl x) (fun _ _ => rfl) (fun b hb' => ⟨rfl, ?_⟩)⟩
    rintro (hf | rfl)
    · exact R.free b hb' hf
    · exact hn id _ v hr rfl R.at_ hb'
  · intro id T s e hr
    obtain ⟨b, us, R⟩ := h.box _ _ _ _ hr
    refine ⟨b, us, R.turn rfl (Ev.refl _ _) (fun _ x => .inl x) (fun _ _ => rfl) ⟨rfl, ?_⟩⟩
    rintro (hf | rfl)
    · exact R.free hf
    · exact hn id _ _ hr rfl R.at_ rfl
  · intro id s g es hr
    obtain ⟨v, hv, hi⟩ := h.fz _ _ _ _ hr
    exact ⟨v, hv, hi.mono (fun _ x => .inl x) (fun _ _ => rfl)⟩
  · intro id d hr
    obtain ⟨b, c0, R⟩ := h.obj _ _ hr
    refine ⟨b, c0, R.turn rfl (Nat.le_refl _) ⟨rfl, ?_⟩⟩
    rintro (hf | rfl)
    · exact R.free hf
    · exact hn id _ _ hr rfl R.at_ (OD.blk_handle d b c0)
  · intro id T s g es hr
    obtain ⟨v, us, R⟩ := h.rr _ _ _ _ _ hr
    refine ⟨v, us, R.turn rfl (Ev.refl _ _) (fun _ x => .inl x) (fun _ _ => rfl) (fun b hb' => ⟨rfl, ?_⟩)⟩
    rintro (hf | rfl)
    · exact R.free b hb' hf
    · exact hn id _ v hr rfl R.at_ hb'

/-- A new map or iterator of the frame. -/
theorem HeapRep.pushObj (h : HeapRep B F H ρ w) {d : OD} {b : Nat} (c : Nat) (own : d.is (w.heap[b]?)) (base : B ≤ b) (lt : b < w.heap.size) (free : ¬ F b)
    (new : ∀ (id : Nat) (o : AO) (v' : Value), H[id]? = some o → o.own = true → ρ[id]? = some v' → blk v' ≠ some b) :
    HeapRep B F (H ++ [.obj d]) (ρ ++ [d.handle b c]) w := by
  have hl := h.len
  have ev := Ev.push H ρ [.obj d] [d.handle b c] h.len
  have old : ∀ id, id < H.length → (ρ ++ [d.handle b c])[id]? = ρ[id]? := fun id hid => List.getElem?_append_left (by omega)
  refine ⟨by simp [hl], h.base, h.fb, ?_, ?_, ?_, ?_, ?_, ?_⟩
  · intro id T' s' g' es' hr
    rw [getElem?_snoc] at hr
    split at hr
    · cases hr
    · obtain ⟨v', us', R⟩ := h.row _ _ _ _ _ hr
      exact ⟨v', us', R.turn (old id (lt_of_some hr)) (fun _ x => x) (fun _ _ => rfl) (fun b hb => ⟨rfl, R.free b hb⟩)⟩
  · intro id T' s' e' hr
    rw [getElem?_snoc] at hr
    split at hr
    · cases hr
    · obtain ⟨b', us', R⟩ := h.box _ _ _ _ hr
      exact ⟨b', us', R.turn (old id (lt_of_some hr)) ev (fun _ x => x) (fun _ _ => rfl) ⟨rfl, R.free⟩⟩
  · intro id s' g' es' hr
    rw [getElem?_snoc] at hr
    split at hr
    · cases hr
    · obtain ⟨v', hv, hi⟩ := h.fz _ _ _ _ hr
      exact ⟨v', (old id (lt_of_some hr)).trans hv, hi⟩
  · intro id d' hr
    rw [getElem?_snoc] at hr
    split at hr
    · rename_i hid; subst hid
      injection hr with hr; injection hr with hr; subst hr
      exact ⟨b, c, by rw [← hl]; simp, own, base, lt, free⟩
    · obtain ⟨b1, c1, R⟩ := h.obj _ _ hr
      exact ⟨b1, c1, R.turn (old id (lt_of_some hr)) (Nat.le_refl _) ⟨rfl, R.free⟩⟩
  · intro id T' s' g' es' hr
    rw [getElem?_snoc] at hr
    split at hr
    · cases hr
    · obtain ⟨v', us', R⟩ := h.rr _ _ _ _ _ hr
      exact ⟨v', us', R.turn (old id (lt_of_some hr)) ev (fun _ x => x) (fun _ _ => rfl) (fun b hb => ⟨rfl, R.free b hb⟩)⟩
  · intro id id' o o' v1 v2 b0 h1 h2 o1 o2 r1 r2 b1 b2
    rw [getElem?_snoc] at h1 h2 r1 r2
    rw [hl] at r1 r2
    split at h1
    · split at h2
      · omega
      · rw [if_pos (by assumption)] at r1; rw [if_neg (by assumption)] at r2
        injection r1 with r1; subst r1
        rw [OD.blk_handle] at b1; injection b1 with b1; subst b1
        exact absurd b2 (new id' o' v2 h2 o2 r2)
    · split at h2
      · rw [if_neg (by assumption)] at r1; rw [if_pos (by assumption)] at r2
        injection r2 with r2; subst r2
        rw [OD.blk_handle] at b2; injection b2 with b2; subst b2
        exact absurd b1 (new id o v1 h1 o1 r1)
      · rw [if_neg (by assumption)] at r1; rw [if_neg (by assumption)] at r2
        exact h.dist id id' o o' v1 v2 b0 h1 h2 o1 o2 r1 r2 b1 b2

/-- A place that is kept. -/
theorem HeapRep.pushRsv (h : HeapRep B F H ρ w) (tag : Nat) : HeapRep B F (H ++ [.rsv tag]) (ρ ++ [undef]) w := by
  have hl := h.len
  have ev := Ev.push H ρ [.rsv tag] [undef] h.len
  have old : ∀ id, id < H.length → (ρ ++ [undef])[id]? = ρ[id]? := fun id hid => List.getElem?_append_left (by omega)
  refine ⟨by simp [hl], h.base, h.fb, ?_, ?_, ?_, ?_, ?_, ?_⟩
  · intro id T' s' g' es' hr
    rw [getElem?_snoc] at hr
    split at hr
    · cases hr
    · obtain ⟨v', us', R⟩ := h.row _ _ _ _ _ hr
      exact ⟨v', us', R.turn (old id (lt_of_some hr)) (fun _ x => x) (fun _ _ => rfl) (fun b hb => ⟨rfl, R.free b hb⟩)⟩
  · intro id T' s' e' hr
    rw [getElem?_snoc] at hr
    split at hr
    · cases hr
    · obtain ⟨b', us', R⟩ := h.box _ _ _ _ hr
      exact ⟨b', us', R.turn (old id (lt_of_some hr)) ev (fun _ x => x) (fun _ _ => rfl) ⟨rfl, R.free⟩⟩
  · intro id s' g' es' hr
    rw [getElem?_snoc] at hr
    split at hr
    · cases hr
    · obtain ⟨v', hv, hi⟩ := h.fz _ _ _ _ hr
      exact ⟨v', (old id (lt_of_some hr)).trans hv, hi⟩
  · intro id d' hr
    rw [getElem?_snoc] at hr
    split at hr
    · cases hr
    · obtain ⟨b1, c9, R⟩ := h.obj _ _ hr
      exact ⟨b1, c9, R.turn (old id (lt_of_some hr)) (Nat.le_refl _) ⟨rfl, R.free⟩⟩
  · intro id T' s' g' es' hr
    rw [getElem?_snoc] at hr
    split at hr
    · cases hr
    · obtain ⟨v', us', R⟩ := h.rr _ _ _ _ _ hr
      exact ⟨v', us', R.turn (old id (lt_of_some hr)) ev (fun _ x => x) (fun _ _ => rfl) (fun b hb => ⟨rfl, R.free b hb⟩)⟩
  · intro id id' o o' v1 v2 b0 h1 h2 o1 o2 r1 r2 b1 b2
    rw [getElem?_snoc] at h1 h2 r1 r2
    rw [hl] at r1 r2
    split at h1
    · injection h1 with h1; subst h1; simp [AO.own] at o1
    · split at h2
      · injection h2 with h2; subst h2; simp [AO.own] at o2
      · rw [if_neg (by assumption)] at r1; rw [if_neg (by assumption)] at r2
        exact h.dist id id' o o' v1 v2 b0 h1 h2 o1 o2 r1 r2 b1 b2

/-- A variable takes the place that was kept for it. -/
theorem HeapRep.fillRsv (h : HeapRep B F H ρ w) {i tag T s b : Nat} {e : AV} {us : List Value} (hi : H[i]? = some (.rsv tag))
    (own : w.heap[b]? = some (.cells us.toArray T (0, 0))) (base : B ≤ b) (cells : e.cells.length = s) (len : us.length = s) (one : ∀ u ∈ us, u.oneCell' = true)
    (rel : ∀ (j : Nat) (c : AV) (u : Value), e.cells[j]? = some c → us[j]? = some u → IR F w c u) (free : ¬ F b)
    (new : ∀ (id : Nat) (o : AO) (v' : Value), H[id]? = some o → o.own = true → ρ[id]? = some v' → blk v' ≠ some b) :
    HeapRep B F (H.set i (.box T s e)) (ρ.set i (.pointer (some ⟨b, 0, none⟩))) w ∧ Ev H ρ (H.set i (.box T s e)) (ρ.set i (.pointer (some ⟨b, 0, none⟩))) := by
  have hl := h.len
  have hlt := lt_of_some hi
  have hltρ : i < ρ.length := by omega
  have old : ∀ id, id ≠ i → (ρ.set i (Value.pointer (some ⟨b, 0, none⟩)))[id]? = ρ[id]? := fun id hne => by rw [getElem?_set_eq _ _ _ _ hltρ, if_neg hne]
  have ev : Ev H ρ (H.set i (.box T s e)) (ρ.set i (.pointer (some ⟨b, 0, none⟩))) := by
    intro id o ho hr
    have hne : id ≠ i := by rintro rfl; rw [hi] at ho; injection ho with ho; subst ho; simp [AO.isRsv] at hr
    exact ⟨o, by rw [getElem?_set_eq _ _ _ _ hlt, if_neg hne]; exact ho, hr, fun s g N hv => ⟨s, g, N, hv, Nat.le_refl _, fun _ => ⟨rfl, Nat.le_refl _, old id hne⟩⟩⟩
  refine ⟨⟨by simp [hl], h.base, h.fb, ?_, ?_, ?_, ?_, ?_, ?_⟩, ev⟩
  · intro id T' s' g' es' hr
    rw [getElem?_set_eq _ _ _ _ hlt] at hr
    split at hr
    · cases hr
    · rename_i hne
      obtain ⟨v', us', R⟩ := h.row _ _ _ _ _ hr
      exact ⟨v', us', R.turn (old id hne) (fun _ x => x) (fun _ _ => rfl) (fun b hb => ⟨rfl, R.free b hb⟩)⟩
  · intro id T' s' e' hr
    rw [getElem?_set_eq _ _ _ _ hlt] at hr
    split at hr
    · rename_i hid; subst hid
      injection hr with hr; injection hr with h1 h2 h3; subst h1 h2 h3
      exact ⟨b, us, by rw [getElem?_set_eq _ _ _ _ hltρ, if_pos rfl], own, base, cells, len, one, fun j c u hc hu => .imm (rel j c u hc hu), free⟩
    · rename_i hne
      obtain ⟨b', us', R⟩ := h.box _ _ _ _ hr
      exact ⟨b', us', R.turn (old id hne) ev (fun _ x => x) (fun _ _ => rfl) ⟨rfl, R.free⟩⟩
  · intro id s' g' es' hr
    rw [getElem?_set_eq _ _ _ _ hlt] at hr
    split at hr
    · cases hr
    · rename_i hne
      obtain ⟨v', hv, hi⟩ := h.fz _ _ _ _ hr
      exact ⟨v', (old id hne).trans hv, hi⟩
  · intro id d' hr
    rw [getElem?_set_eq _ _ _ _ hlt] at hr
    split at hr
    · cases hr
    · rename_i hne
      obtain ⟨b1, c9, R⟩ := h.obj _ _ hr
      exact ⟨b1, c9, R.turn (old id hne) (Nat.le_refl _) ⟨rfl, R.free⟩⟩
  · intro id T' s' g' es' hr
    rw [getElem?_set_eq _ _ _ _ hlt] at hr
    split at hr
    · cases hr
    · rename_i hne
      obtain ⟨v', us', R⟩ := h.rr _ _ _ _ _ hr
      exact ⟨v', us', R.turn (old id hne) ev (fun _ x => x) (fun _ _ => rfl) (fun b hb => ⟨rfl, R.free b hb⟩)⟩
  · intro id id' o o' v1 v2 b0 h1 h2 o1 o2 r1 r2 b1 b2
    rw [getElem?_set_eq _ _ _ _ hlt] at h1 h2
    rw [getElem?_set_eq _ _ _ _ hltρ] at r1 r2
    split at h1
    · split at h2
      · omega
      · rw [if_pos (by assumption)] at r1; rw [if_neg (by assumption)] at r2
        injection r1 with r1; subst r1
        simp [blk] at b1; subst b1
        exact absurd b2 (new id' o' v2 h2 o2 r2)
    · split at h2
      · rw [if_neg (by assumption)] at r1; rw [if_pos (by assumption)] at r2
        injection r2 with r2; subst r2
        simp [blk] at b2; subst b2
        exact absurd b1 (new id o v1 h1 o1 r1)
      · rw [if_neg (by assumption)] at r1; rw [if_neg (by assumption)] at r2
        exact h.dist id id' o o' v1 v2 b0 h1 h2 o1 o2 r1 r2 b1 b2

/-- What a row reads as, once nobody writes it any more. -/
theorem RowRep.imm {id T s : Nat} {es : List AV} {v : Value} {us : List Value} (h : RowRep B ρ F w id T s es v us) (hF : ∀ b, F b → F' b) (hb : ∀ b, blk v = some b → F' b) : IR F' w (.sl s es) v := by
  have hfl : (flat es).length = us.length := by rw [flat_len h.cells, h.own.1]
  rcases h.own.2 with ⟨rfl, hn⟩ | ⟨g, cap, cur, rfl, hbg, hg, hnc, hcm, hcs, htk⟩
  · have he : es = [] := List.eq_nil_of_length_eq_zero hn
    subst he
    exact .sl s [] none 0 us (Nat.zero_le _) (Nat.zero_le _) h.cells hfl h.one (fun hne => absurd rfl hne) (fun j c u hc hu => (h.rel j c u hc hu).mono hF (fun _ _ => rfl))
  · exact .sl s es (some ⟨g, 0, none⟩) cap us hnc hcm h.cells hfl h.one (fun _ => ⟨_, rfl, hb g rfl, h.own.cells (g := g) rfl⟩) (fun j c u hc hu => (h.rel j c u hc hu).mono hF (fun _ _ => rfl))

end
end Go.PI
