/- What a call of a function gives, as a contract; what is handed back of the frame's rows. No condition. -/
import Derived.Test.YtpphfbfmoipoaaaDoorPi11
namespace Go.PI
open Go.RowKit

section
variable {P : Program} {C : Cfg} {im : Md} {B N : Nat} {F F' : Nat → Prop} {H H' : List AO} {ρ ρ' : List Value} {w w' : World} {x y : Value} {e : Env} {a : Act}

/-- A result's cell: a plain value, or a handle of one of the rows that are handed back. -/
def CR (R : List AO) (σ : List Value) (F : Nat → Prop) (w : World) (c : AV) (u : Value) : Prop :=
  IR F w c u ∨ ∃ id g o n, c = .ref id g o n ∧ VR R σ F w c u

def RR1 (R : List AO) (σ : List Value) (F : Nat → Prop) (w : World) (v : AV) (x : Value) : Prop :=
  CR R σ F w v x ∨ ∃ (cs : List AV) (us : List Value), v = .agg cs ∧ x = .agg us.toArray ∧ cs.length = us.length ∧ (∀ u ∈ us, u.oneCell' = true) ∧
    ∀ (j : Nat) (c : AV) (u : Value), cs[j]? = some c → us[j]? = some u → CR R σ F w c u

def RR2 (R : List AO) (σ : List Value) (F : Nat → Prop) (w : World) (v : AV) (x : Value) : Prop :=
  RR1 R σ F w v x ∨ ∃ (cs : List AV) (us : List Value), v = .tup cs ∧ x = .tuple us.toArray ∧ cs.length = us.length ∧
    ∀ (j : Nat) (c : AV) (u : Value), cs[j]? = some c → us[j]? = some u → RR1 R σ F w c u

def AO.isRow : AO → Bool
  | .row .. => true
  | _ => false

/-- The contract of a call: the arguments read as 'args'; then the call returns, its result reads as 'res' over the rows 'rows' (new memory), and nothing that was there has turned. -/
def FnOk (C : Cfg) (P : Program) (f : Nat) (args : List AV) (res : AV) (rows : List AO) : Prop :=
  (∀ o ∈ rows, o.isRow = true) ∧ ∀ (F : Nat → Prop) (w : World) (vs : List Value), (∀ b, F b → b < w.heap.size) → Glob C F w → args.length = vs.length →
    (∀ (j : Nat) (c : AV) (u : Value), args[j]? = some c → vs[j]? = some u → IR F w c u) →
    Calls P f vs.toArray w fun en w' => ∃ v ρ' F', en = .returned v ∧ HeapRep w.heap.size F' rows ρ' w' ∧ RR2 rows ρ' F' w' res v ∧ Below w.heap.size w w' ∧
      (∀ b, F b → F' b) ∧ (∀ b, F' b → F b ∨ w.heap.size ≤ b)

/-- The contract of a call in the caller's frame. -/
def FnOkO (C : Cfg) (P : Program) (f : Nat) (args : List AV) (H : List AO) (res : AV) (H' : List AO) : Prop :=
  ∀ (B : Nat) (F : Nat → Prop) (ρ : List Value) (w : World) (vs : List Value), HeapRep B F H ρ w → Glob C F w → args.length = vs.length →
    (∀ (j : Nat) (c : AV) (u : Value), args[j]? = some c → vs[j]? = some u → VR H ρ F w c u) →
    Calls P f vs.toArray w fun en w' => ∃ v ρ' F', en = .returned v ∧ Post B F H ρ w res H' v w' ρ' F'

theorem CR.vr {R : List AO} {σ : List Value} {c : AV} (h : CR R σ F w c x) : VR R σ F w c x := by
  rcases h with h | ⟨id, g, o, n, rfl, h⟩
  · exact .imm h
  · exact h
theorem RR1.vr {R : List AO} {σ : List Value} {c : AV} (h : RR1 R σ F w c x) : VR R σ F w c x := by
  rcases h with h | ⟨cs, us, rfl, rfl, hl, h1, hr⟩
  · exact h.vr
  · exact .agg cs us hl h1 (fun j c u hc hu => (hr j c u hc hu).vr)
theorem RR2.vr {R : List AO} {σ : List Value} {c : AV} (h : RR2 R σ F w c x) : VR R σ F w c x := by
  rcases h with h | ⟨cs, us, rfl, rfl, hl, hr⟩
  · exact h.vr
  · exact .tup cs us hl (fun j c u hc hu => (hr j c u hc hu).vr)

/- the rows that are handed back, laid behind the caller's -/
theorem shift_ref {R G : List AO} {σ τ : List Value} {id g o n : Nat} (hl : τ.length = G.length) (h : RefOk R σ id g o n x) : RefOk (G ++ R) (τ ++ σ) (G.length + id) g o n x := by
  obtain ⟨ob, hob, hrs, hv⟩ := h
  refine ⟨ob, by rw [List.getElem?_append_right (by omega)]; simpa using hob, hrs, fun s g' N' hvw => ?_⟩
  obtain ⟨h1, h2⟩ := hv s g' N' hvw
  refine ⟨h1, fun eq => ?_⟩
  obtain ⟨h3, v, h4, h5⟩ := h2 eq
  exact ⟨h3, v, by rw [List.getElem?_append_right (by omega), ← hl]; simpa using h4, h5⟩

theorem shift0_ir {c : AV} (k : Nat) (h : IR F w c x) : shift0 k c = c := by cases h <;> rfl

theorem shift0_ok {R G : List AO} {σ τ : List Value} {c : AV} (hl : τ.length = G.length) (h : CR R σ F w c x) : VR (G ++ R) (τ ++ σ) F w (shift0 G.length c) x := by
  rcases h with h | ⟨id, g, o, n, rfl, h⟩
  · rw [shift0_ir _ h]; exact .imm h
  · obtain ⟨A, c, rfl, hok⟩ := h.ref_inv
    exact .ref _ _ _ _ _ _ (shift_ref hl hok)

theorem shift1_ok {R G : List AO} {σ τ : List Value} {c : AV} (hl : τ.length = G.length) (h : RR1 R σ F w c x) : VR (G ++ R) (τ ++ σ) F w (shift1 G.length c) x := by
  have cells : ∀ (cs : List AV) (us : List Value), cs.length = us.length → (∀ u ∈ us, u.oneCell' = true) → (∀ (j : Nat) (c : AV) (u : Value), cs[j]? = some c → us[j]? = some u → CR R σ F w c u) →
      VR (G ++ R) (τ ++ σ) F w (.agg (cs.map (shift0 G.length))) (.agg us.toArray) := by
    intro cs us h1 h2 h3
    refine .agg _ us (by simpa using h1) h2 (fun j c u hc hu => ?_)
    rw [List.getElem?_map] at hc
    obtain ⟨c0, hc0, rfl⟩ := Option.map_eq_some_iff.1 hc
    exact shift0_ok hl (h3 j c0 u hc0 hu)
  rcases h with h | ⟨cs, us, rfl, rfl, h1, h2, h3⟩
  · by_cases ha : ∃ cs, c = .agg cs
    · obtain ⟨cs, rfl⟩ := ha
      rcases h with h | ⟨_, _, _, _, h, _⟩
      · cases h with | agg _ us h1 h2 h3 => exact cells cs us h1 h2 (fun j c u hc hu => .inl (h3 j c u hc hu))
      · cases h
    · have : shift1 G.length c = shift0 G.length c := by cases c <;> first | rfl | exact absurd ⟨_, rfl⟩ ha
      rw [this]; exact shift0_ok hl h
  · exact cells cs us h1 h2 h3

theorem shift2_ok {R G : List AO} {σ τ : List Value} {c : AV} (hl : τ.length = G.length) (h : RR2 R σ F w c x) : VR (G ++ R) (τ ++ σ) F w (shift2 G.length c) x := by
  have parts : ∀ (cs : List AV) (us : List Value), cs.length = us.length → (∀ (j : Nat) (c : AV) (u : Value), cs[j]? = some c → us[j]? = some u → RR1 R σ F w c u) →
      VR (G ++ R) (τ ++ σ) F w (.tup (cs.map (shift1 G.length))) (.tuple us.toArray) := by
    intro cs us h1 h3
    refine .tup _ us (by simpa using h1) (fun j c u hc hu => ?_)
    rw [List.getElem?_map] at hc
    obtain ⟨c0, hc0, rfl⟩ := Option.map_eq_some_iff.1 hc
    exact shift1_ok hl (h3 j c0 u hc0 hu)
  rcases h with h | ⟨cs, us, rfl, rfl, h1, h3⟩
  · by_cases ha : ∃ cs, c = .tup cs
    · obtain ⟨cs, rfl⟩ := ha
      rcases h with (h | ⟨_, _, _, _, h, _⟩) | ⟨_, _, h, _⟩
      · cases h with | tup _ us h1 h3 => exact parts cs us h1 (fun j c u hc hu => .inl (.inl (h3 j c u hc hu)))
      · cases h
      · cases h
    · have : shift2 G.length c = shift1 G.length c := by cases c <;> first | rfl | exact absurd ⟨_, rfl⟩ ha
      rw [this]; exact shift1_ok hl h
  · exact parts cs us h1 h3

/-- The callee's rows join the caller's. -/
theorem HeapRep.join {F1 : Nat → Prop} {G R : List AO} {τ σ : List Value} (hG : HeapRep B F1 G τ w) (hR : HeapRep w.heap.size F' R σ w') (hrow : ∀ o ∈ R, o.isRow = true) (hb : Below w.heap.size w w')
    (h1 : ∀ b, F1 b → F' b) (h2 : ∀ b, F' b → F1 b ∨ w.heap.size ≤ b) : HeapRep B F' (G ++ R) (τ ++ σ) w' := by
  have hl := hG.len
  have ev := Ev.push G τ R σ hG.len
  have hw : ∀ b, F1 b → w'.heap[b]? = w.heap[b]? := fun b h => hb.block b (hG.fb b h)
  have old : ∀ id, id < G.length → (τ ++ σ)[id]? = τ[id]? := fun id hid => List.getElem?_append_left (by omega)
  have new : ∀ id, G.length ≤ id → (τ ++ σ)[id]? = σ[id - G.length]? := fun id hid => by rw [List.getElem?_append_right (by omega), hl]
  have hfree : ∀ (id : Nat) (o : AO) (v : Value) (b : Nat), G[id]? = some o → o.own = true → τ[id]? = some v → blk v = some b → w'.heap[b]? = w.heap[b]? ∧ ¬ F' b := by
    intro id o v b q1 q2 q3 q4
    obtain ⟨p1, p2, p3⟩ := hG.ownBlk q1 q2 q3 q4
    exact ⟨hb.block b p2, fun hF => (h2 b hF).elim p3 (fun h => by omega)⟩
  refine ⟨by simp [hl, hR.len], Nat.le_trans hG.base hb.size, hR.fb, ?_, ?_, ?_, ?_, ?_, ?_⟩
  · intro id T s g es hr
    rcases Nat.lt_or_ge id G.length with hid | hid
    · rw [List.getElem?_append_left hid] at hr
      obtain ⟨v, us, R0⟩ := hG.row _ _ _ _ _ hr
      exact ⟨v, us, R0.turn (old id hid) h1 hw (fun b hb' => hfree id _ v b hr rfl R0.at_ hb')⟩
    · rw [List.getElem?_append_right hid] at hr
      obtain ⟨v, us, R0⟩ := hR.row _ _ _ _ _ hr
      refine ⟨v, us, (new id hid).trans R0.at_, ?_, R0.pos, R0.cells, R0.one, R0.rel, R0.free⟩
      refine ⟨R0.own.1, ?_⟩
      rcases R0.own.2 with q | ⟨gb, cap, cur, q1, q2, q3⟩
      · exact .inl q
      · exact .inr ⟨gb, cap, cur, q1, Nat.le_trans hG.base q2, q3⟩
  · intro id T s el hr
    rcases Nat.lt_or_ge id G.length with hid | hid
    · rw [List.getElem?_append_left hid] at hr
      obtain ⟨b, us, R0⟩ := hG.box _ _ _ _ hr
      exact ⟨b, us, R0.turn (old id hid) ev h1 hw (hfree id _ _ b hr rfl R0.at_ rfl)⟩
    · rw [List.getElem?_append_right hid] at hr
      have := hrow _ (List.mem_of_getElem? hr)
      simp [AO.isRow] at this
  · intro id s g es hr
    rcases Nat.lt_or_ge id G.length with hid | hid
    · rw [List.getElem?_append_left hid] at hr
      obtain ⟨v, q1, q2⟩ := hG.fz _ _ _ _ hr
      exact ⟨v, (old id hid).trans q1, q2.mono h1 hw⟩
    · rw [List.getElem?_append_right hid] at hr
      have := hrow _ (List.mem_of_getElem? hr)
      simp [AO.isRow] at this
  · intro id d hr
    rcases Nat.lt_or_ge id G.length with hid | hid
    · rw [List.getElem?_append_left hid] at hr
      obtain ⟨b, c0, R0⟩ := hG.obj _ _ hr
      exact ⟨b, c0, R0.turn (old id hid) hb.size (hfree id _ _ b hr rfl R0.at_ (OD.blk_handle d b c0))⟩
    · rw [List.getElem?_append_right hid] at hr
      have := hrow _ (List.mem_of_getElem? hr)
      simp [AO.isRow] at this
  · intro id T s g es hr
    rcases Nat.lt_or_ge id G.length with hid | hid
    · rw [List.getElem?_append_left hid] at hr
      obtain ⟨v, us, R0⟩ := hG.rr _ _ _ _ _ hr
      exact ⟨v, us, R0.turn (old id hid) ev h1 hw (fun b hb' => hfree id _ v b hr rfl R0.at_ hb')⟩
    · rw [List.getElem?_append_right hid] at hr
      have := hrow _ (List.mem_of_getElem? hr)
      simp [AO.isRow] at this
  · intro id id' o o' v v' b q1 q2 o1 o2 r1 r2 b1 b2
    rcases Nat.lt_or_ge id G.length with hid | hid <;> rcases Nat.lt_or_ge id' G.length with hid' | hid'
    · rw [List.getElem?_append_left hid] at q1
      rw [List.getElem?_append_left hid'] at q2
      rw [old id hid] at r1
      rw [old id' hid'] at r2
      exact hG.dist id id' o o' v v' b q1 q2 o1 o2 r1 r2 b1 b2
    · rw [List.getElem?_append_left hid] at q1
      rw [List.getElem?_append_right hid'] at q2
      rw [old id hid] at r1
      rw [new id' hid'] at r2
      have e1 := (hG.ownBlk q1 o1 r1 b1).2.1
      have e2 := (hR.ownBlk q2 o2 r2 b2).1
      omega
    · rw [List.getElem?_append_right hid] at q1
      rw [List.getElem?_append_left hid'] at q2
      rw [new id hid] at r1
      rw [old id' hid'] at r2
      have e1 := (hG.ownBlk q2 o2 r2 b2).2.1
      have e2 := (hR.ownBlk q1 o1 r1 b1).1
      omega
    · rw [List.getElem?_append_right hid] at q1
      rw [List.getElem?_append_right hid'] at q2
      rw [new id hid] at r1
      rw [new id' hid'] at r2
      have := hR.dist _ _ o o' v v' b q1 q2 o1 o2 r1 r2 b1 b2
      omega

/- plain results -/
theorem plain_ir {v : AV} {G R : List AO} {σ τ : List Value} {F1 : Nat → Prop} {w1 : World} (hp : plain v = true) (h : VR R σ F w v x) : VR G τ F1 w1 v x := by
  cases v <;> simp [plain] at hp
  · have := h.bool_inv; subst this; exact .imm (.bool _)
  · have := h.int_inv; subst this; exact .imm (.int _ _)
  · have := h.str_inv; subst this; exact .imm (.str _)

theorem plainR_vr {v : AV} {G R : List AO} {σ τ : List Value} {F1 : Nat → Prop} {w1 : World} (hp : plainR v = true) (h : VR R σ F w v x) : VR G τ F1 w1 v x := by
  by_cases ht : ∃ vs, v = .tup vs
  · obtain ⟨vs, rfl⟩ := ht
    obtain ⟨us, rfl, hl, hr⟩ := h.tup_inv
    simp only [plainR, List.all_eq_true] at hp
    exact .tup vs us hl (fun j c u hc hu => plain_ir (hp c (List.mem_of_getElem? hc)) (hr j c u hc hu))
  · have : plainR v = plain v := by cases v <;> first | rfl | exact absurd ⟨_, rfl⟩ ht
    rw [this] at hp
    exact plain_ir hp h

end
end Go.PI
