/- The abstract domain of the interpreter 'PI': values, rows, the relation to the model's values and memory, and that it is kept when memory grows. No condition. -/
import Derived.Below
import Derived.Laws.OwnMore
import Derived.Laws.AppendOwnNone
import Derived.Orders
import Derived.LoopN
import Derived.Lib.ConvBytes
namespace Go.PI

inductive AV where
  | top
  | bool (b : Bool)
  | int (k : IntKind) (n : Int)
  | str (s : List UInt8)
  | nilp
  | bptr (id o : Nat)
  | rptr (id g i o : Nat)
  | cptr (e : AV) (o : Nat)
  | e0
  | sl (s : Nat) (es : List AV)
  | ref (id g o n : Nat)
  | agg (cs : List AV)
  | tup (vs : List AV)
  | fn (f : Nat) (caps : List AV)
  | mp (id : Nat)
  | itr (id : Nat)
  | nils
  | en
  deriving Inhabited

def AV.cells : AV → List AV
  | .agg cs => cs
  | v => [v]

def flat (es : List AV) : List AV := es.flatMap AV.cells

/-- a map of plain keys and values; an iterator over a string; the bytes that a string was turned into -/
inductive OD where
  | mp (kv : List (Int × AV))
  | it (s : List UInt8) (pos : Nat)
  | bb (l : List UInt8)
  deriving Inhabited

inductive AO where
  | row (T s g : Nat) (es : List AV)
  | fz (s g : Nat) (es : List AV)
  | box (T s : Nat) (e : AV)
  | obj (d : OD)
  | rr (T s g : Nat) (es : List AV)
  | rsv (tag : Nat)
  | gone
  deriving Inhabited

def AO.view : AO → Option (Nat × Nat × Nat)
  | .row _ s g es => some (s, g, es.length)
  | .fz s g es => some (s, g, es.length)
  | .box _ s _ => some (s, 0, 1)
  | .obj _ => some (0, 0, 0)
  | .rr _ s g es => some (s, g, es.length)
  | .rsv _ => none
  | .gone => none

def AO.isRsv : AO → Bool
  | .rsv _ => true
  | _ => false

def plainV : AV → Option Value
  | .bool b => some (.bool b)
  | .int k n => some (.int k n)
  | .str l => some (.string ⟨l.toArray⟩)
  | _ => none

def OD.handle (b c : Nat) : OD → Value
  | .mp _ => .map (some b)
  | .it _ _ => .pointer (some ⟨b, 0, none⟩)
  | .bb l => .slice (some ⟨b, 0, none⟩) l.length c

/-- what such an object is in memory -/
def OD.is : OD → Option Obj → Prop
  | .mp kv, o => ∃ es clock, o = some (.map es clock) ∧ es.toList.map (fun e => (e.key, some e.val)) = kv.map fun p => (.int .i64 p.1, plainV p.2)
  | .it s pos, o => o = some (.stringIter ⟨s.toArray⟩ pos)
  | .bb l, o => ∃ cur T fz, o = some (.cells cur T fz) ∧ cur.size ≤ fz.1 ∧ l.length ≤ cur.size ∧ ∀ (j : Nat) (b : UInt8), l[j]? = some b → cur[j]? = some (.int .u8 b.toNat)

/-- Values that hold no handle of the frame: what they read lies in blocks of F. -/
inductive IR (F : Nat → Prop) (w : World) : AV → Value → Prop
  | top (v : Value) : IR F w .top v
  | bool (b : Bool) : IR F w (.bool b) (.bool b)
  | int (k : IntKind) (n : Int) : IR F w (.int k n) (.int k n)
  | str (l : List UInt8) : IR F w (.str l) (.string ⟨l.toArray⟩)
  | nilp : IR F w .nilp (.pointer none)
  | e0 (a : Option Addr) : IR F w .e0 (.slice a 0 0)
  | nils (cap : Nat) (h : cap ≤ maxLen) : IR F w .nils (.slice none 0 cap)
  | en (a : Addr) (cap : Nat) (h : cap ≤ maxLen) : IR F w .en (.slice (some a) 0 cap)
  | sl (s : Nat) (es : List AV) (a : Option Addr) (cap : Nat) (us : List Value) (hc : es.length ≤ cap) (hcm : cap ≤ maxLen) (hs : ∀ e ∈ es, e.cells.length = s)
      (hl : (flat es).length = us.length) (h1 : ∀ u ∈ us, u.oneCell' = true)
      (hm : es ≠ [] → ∃ ad : Addr, a = some ad ∧ F ad.block ∧ ∀ j u, us[j]? = some u → w.cell? (ad.add j) = some u)
      (hr : ∀ (j : Nat) (c : AV) (u : Value), (flat es)[j]? = some c → us[j]? = some u → IR F w c u) : IR F w (.sl s es) (.slice a es.length cap)
  | cptr (e : AV) (o : Nat) (ad : Addr) (us : List Value) (hF : F ad.block) (hl : e.cells.length = us.length) (h1 : ∀ u ∈ us, u.oneCell' = true)
      (hm : ∀ j u, us[j]? = some u → w.cell? (ad.add j) = some u)
      (hr : ∀ (j : Nat) (c : AV) (u : Value), e.cells[j]? = some c → us[j]? = some u → IR F w c u) : IR F w (.cptr e o) (.pointer (some (ad.add o)))
  | agg (cs : List AV) (us : List Value) (hl : cs.length = us.length) (h1 : ∀ u ∈ us, u.oneCell' = true)
      (hr : ∀ (j : Nat) (c : AV) (u : Value), cs[j]? = some c → us[j]? = some u → IR F w c u) : IR F w (.agg cs) (.agg us.toArray)
  | tup (cs : List AV) (us : List Value) (hl : cs.length = us.length)
      (hr : ∀ (j : Nat) (c : AV) (u : Value), cs[j]? = some c → us[j]? = some u → IR F w c u) : IR F w (.tup cs) (.tuple us.toArray)
  | fn (f : Nat) (cs : List AV) (us : List Value) (hl : cs.length = us.length)
      (hr : ∀ (j : Nat) (c : AV) (u : Value), cs[j]? = some c → us[j]? = some u → IR F w c u) : IR F w (.fn f cs) (.func (.func f) #[] us.toArray)

theorem IR.mono {F F' : Nat → Prop} {w w' : World} {v : AV} {x : Value} (h : IR F w v x) (hF : ∀ b, F b → F' b) (hw : ∀ b, F b → w'.heap[b]? = w.heap[b]?) : IR F' w' v x := by
  induction h with
  | top v => exact .top v
  | bool b => exact .bool b
  | int k n => exact .int k n
  | str l => exact .str l
  | nilp => exact .nilp
  | e0 a => exact .e0 a
  | nils cap h => exact .nils cap h
  | en a cap h => exact .en a cap h
  | sl s es a cap us hc hcm hs hl h1 hm hr ih =>
    refine .sl s es a cap us hc hcm hs hl h1 (fun hne => ?_) ih
    obtain ⟨ad, ha, hb, hcell⟩ := hm hne
    exact ⟨ad, ha, hF _ hb, fun j u hu => by
      have hbk : (ad.add j).block = ad.block := by unfold Addr.add; split <;> rfl
      rw [World.cell?_of_block (w := w) (by rw [hbk]; exact hw _ hb)]; exact hcell j u hu⟩
  | cptr e o ad us hb hl h1 hm hr ih =>
    refine .cptr e o ad us (hF _ hb) hl h1 (fun j u hu => ?_) ih
    have hbk : (ad.add j).block = ad.block := by unfold Addr.add; split <;> rfl
    rw [World.cell?_of_block (w := w) (by rw [hbk]; exact hw _ hb)]; exact hm j u hu
  | agg cs us hl h1 hr ih => exact .agg cs us hl h1 ih
  | tup cs us hl hr ih => exact .tup cs us hl ih
  | fn f cs us hl hr ih => exact .fn f cs us hl ih

def SubSlice (v : Value) (s o n : Nat) (x : Value) : Prop :=
  ∃ (A : Option Addr) (N cap : Nat) (A' : Option Addr), v = .slice A N cap ∧ x = .slice A' n (cap - o) ∧ o + n ≤ N ∧ (0 < n → ∃ ad, A = some ad ∧ A' = some (ad.add (o * s))) ∧ (o = 0 → A' = A)

def PtrTo (v : Value) (s i o : Nat) (x : Value) : Prop :=
  ∃ (ad : Addr) (N cap : Nat), v = .slice (some ad) N cap ∧ i < N ∧ x = .pointer (some (ad.add (i * s + o)))

def RefOk (H : List AO) (ρ : List Value) (id g o n : Nat) (x : Value) : Prop :=
  ∃ ob : AO, H[id]? = some ob ∧ ob.isRsv = false ∧ ∀ (s g' N : Nat), ob.view = some (s, g', N) → g ≤ g' ∧ (g = g' → o + n ≤ N ∧ ∃ v, ρ[id]? = some v ∧ SubSlice v s o n x)

def PtrOk (H : List AO) (ρ : List Value) (id g i o : Nat) (x : Value) : Prop :=
  ∃ ob : AO, H[id]? = some ob ∧ ob.isRsv = false ∧ ∀ (s g' N : Nat), ob.view = some (s, g', N) → g ≤ g' ∧ (g = g' → i < N ∧ ∃ v, ρ[id]? = some v ∧ PtrTo v s i o x)

def BoxOk (H : List AO) (ρ : List Value) (id o : Nat) (x : Value) : Prop :=
  ∃ ob : AO, H[id]? = some ob ∧ ob.isRsv = false ∧ ∀ (s g' N : Nat), ob.view = some (s, g', N) → 0 = g' → ∃ b, ρ[id]? = some (.pointer (some ⟨b, 0, none⟩)) ∧ x = .pointer (some ⟨b, o, none⟩)

def ObjOk (H : List AO) (ρ : List Value) (id : Nat) (x : Value) : Prop :=
  ∃ ob : AO, H[id]? = some ob ∧ ob.isRsv = false ∧ ∀ (s g' N : Nat), ob.view = some (s, g', N) → 0 = g' → ρ[id]? = some x

inductive VR (H : List AO) (ρ : List Value) (F : Nat → Prop) (w : World) : AV → Value → Prop
  | imm {v : AV} {x : Value} (h : IR F w v x) : VR H ρ F w v x
  | ref (id g o n : Nat) (A : Option Addr) (c : Nat) (h : RefOk H ρ id g o n (.slice A n c)) : VR H ρ F w (.ref id g o n) (.slice A n c)
  | rptr (id g i o : Nat) (x : Addr) (h : PtrOk H ρ id g i o (.pointer (some x))) : VR H ρ F w (.rptr id g i o) (.pointer (some x))
  | bptr (id o : Nat) (x : Addr) (h : BoxOk H ρ id o (.pointer (some x))) : VR H ρ F w (.bptr id o) (.pointer (some x))
  | mp (id : Nat) (b : Nat) (h : ObjOk H ρ id (.map (some b))) : VR H ρ F w (.mp id) (.map (some b))
  | itr (id : Nat) (x : Value) (h1 : x.oneCell' = true) (h : ObjOk H ρ id x) : VR H ρ F w (.itr id) x
  | agg (cs : List AV) (us : List Value) (hl : cs.length = us.length) (h1 : ∀ u ∈ us, u.oneCell' = true)
      (hr : ∀ (j : Nat) (c : AV) (u : Value), cs[j]? = some c → us[j]? = some u → VR H ρ F w c u) : VR H ρ F w (.agg cs) (.agg us.toArray)
  | tup (cs : List AV) (us : List Value) (hl : cs.length = us.length)
      (hr : ∀ (j : Nat) (c : AV) (u : Value), cs[j]? = some c → us[j]? = some u → VR H ρ F w c u) : VR H ρ F w (.tup cs) (.tuple us.toArray)
  | fn (f : Nat) (cs : List AV) (us : List Value) (hl : cs.length = us.length)
      (hr : ∀ (j : Nat) (c : AV) (u : Value), cs[j]? = some c → us[j]? = some u → VR H ρ F w c u) : VR H ρ F w (.fn f cs) (.func (.func f) #[] us.toArray)

/-- How the frame's rows may turn: a row's generation goes up, or the row stays where it is. -/
def Ev (H : List AO) (ρ : List Value) (H' : List AO) (ρ' : List Value) : Prop :=
  ∀ (id : Nat) (o : AO), H[id]? = some o → o.isRsv = false → ∃ o' : AO, H'[id]? = some o' ∧ o'.isRsv = false ∧
    ∀ (s' g' N' : Nat), o'.view = some (s', g', N') → ∃ s g N : Nat, o.view = some (s, g, N) ∧ g ≤ g' ∧ (g = g' → s' = s ∧ N ≤ N' ∧ ρ'[id]? = ρ[id]?)

theorem Ev.refl (H : List AO) (ρ : List Value) : Ev H ρ H ρ := fun _ o h hr => ⟨o, h, hr, fun s g N hv => ⟨s, g, N, hv, Nat.le_refl _, fun _ => ⟨rfl, Nat.le_refl _, rfl⟩⟩⟩

theorem Ev.trans {H H' H'' : List AO} {ρ ρ' ρ'' : List Value} (h : Ev H ρ H' ρ') (k : Ev H' ρ' H'' ρ'') : Ev H ρ H'' ρ'' := by
  intro id o ho hr
  obtain ⟨o', ho', hr', h'⟩ := h id o ho hr
  obtain ⟨o'', ho'', hr'', h''⟩ := k id o' ho' hr'
  refine ⟨o'', ho'', hr'', fun s'' g'' N'' hv => ?_⟩
  obtain ⟨s', g', N', hv', hg', he'⟩ := h'' s'' g'' N'' hv
  obtain ⟨s, g, N, hv0, hg, he⟩ := h' s' g' N' hv'
  refine ⟨s, g, N, hv0, Nat.le_trans hg hg', fun e => ?_⟩
  have e1 : g = g' := by omega
  have e2 : g' = g'' := by omega
  obtain ⟨a1, a2, a3⟩ := he e1
  obtain ⟨b1, b2, b3⟩ := he' e2
  exact ⟨b1.trans a1, Nat.le_trans a2 b2, b3.trans a3⟩

theorem Ev.push (H : List AO) (ρ : List Value) (X : List AO) (Y : List Value) (hl : ρ.length = H.length) : Ev H ρ (H ++ X) (ρ ++ Y) := by
  intro id o ho hr
  have hlt : id < H.length := by
    rcases Nat.lt_or_ge id H.length with h | h
    · exact h
    · rw [List.getElem?_eq_none h] at ho; cases ho
  refine ⟨o, by rw [List.getElem?_append_left hlt]; exact ho, hr, fun s g N hv => ⟨s, g, N, hv, Nat.le_refl _, fun _ => ⟨rfl, Nat.le_refl _, ?_⟩⟩⟩
  rw [List.getElem?_append_left (by omega)]

theorem RefOk.mono {H H' : List AO} {ρ ρ' : List Value} {id g o n : Nat} {x : Value} (h : RefOk H ρ id g o n x) (e : Ev H ρ H' ρ') : RefOk H' ρ' id g o n x := by
  obtain ⟨ob, hob, hrs, hv⟩ := h
  obtain ⟨ob', hob', hrs', hv'⟩ := e id ob hob hrs
  refine ⟨ob', hob', hrs', fun s g' N hvw => ?_⟩
  obtain ⟨s0, g0, N0, h0, hg0, he0⟩ := hv' s g' N hvw
  obtain ⟨h1, h2⟩ := hv s0 g0 N0 h0
  refine ⟨Nat.le_trans h1 hg0, fun eq => ?_⟩
  obtain ⟨es, eN, er⟩ := he0 (by omega)
  obtain ⟨h3, v, h4, h5⟩ := h2 (by omega)
  exact ⟨by omega, v, er.trans h4, by rw [es]; exact h5⟩

theorem PtrOk.mono {H H' : List AO} {ρ ρ' : List Value} {id g i o : Nat} {x : Value} (h : PtrOk H ρ id g i o x) (e : Ev H ρ H' ρ') : PtrOk H' ρ' id g i o x := by
  obtain ⟨ob, hob, hrs, hv⟩ := h
  obtain ⟨ob', hob', hrs', hv'⟩ := e id ob hob hrs
  refine ⟨ob', hob', hrs', fun s g' N hvw => ?_⟩
  obtain ⟨s0, g0, N0, h0, hg0, he0⟩ := hv' s g' N hvw
  obtain ⟨h1, h2⟩ := hv s0 g0 N0 h0
  refine ⟨Nat.le_trans h1 hg0, fun eq => ?_⟩
  obtain ⟨es, eN, er⟩ := he0 (by omega)
  obtain ⟨h3, v, h4, h5⟩ := h2 (by omega)
  exact ⟨by omega, v, er.trans h4, by rw [es]; exact h5⟩

theorem BoxOk.mono {H H' : List AO} {ρ ρ' : List Value} {id o : Nat} {x : Value} (h : BoxOk H ρ id o x) (e : Ev H ρ H' ρ') : BoxOk H' ρ' id o x := by
  obtain ⟨ob, hob, hrs, hv⟩ := h
  obtain ⟨ob', hob', hrs', hv'⟩ := e id ob hob hrs
  refine ⟨ob', hob', hrs', fun s g' N hvw h0 => ?_⟩
  obtain ⟨s0, g0, N0, h0', hg0, he0⟩ := hv' s g' N hvw
  obtain ⟨b, h1, h2⟩ := hv s0 g0 N0 h0' (by omega)
  obtain ⟨_, _, er⟩ := he0 (by omega)
  exact ⟨b, er.trans h1, h2⟩

theorem ObjOk.mono {H H' : List AO} {ρ ρ' : List Value} {id : Nat} {x : Value} (h : ObjOk H ρ id x) (e : Ev H ρ H' ρ') : ObjOk H' ρ' id x := by
  obtain ⟨ob, hob, hrs, hv⟩ := h
  obtain ⟨ob', hob', hrs', hv'⟩ := e id ob hob hrs
  refine ⟨ob', hob', hrs', fun s g' N hvw h0 => ?_⟩
  obtain ⟨s0, g0, N0, h0', hg0, he0⟩ := hv' s g' N hvw
  have h1 := hv s0 g0 N0 h0' (by omega)
  obtain ⟨_, _, er⟩ := he0 (by omega)
  exact er.trans h1

theorem VR.mono {H H' : List AO} {ρ ρ' : List Value} {F F' : Nat → Prop} {w w' : World} {v : AV} {x : Value} (h : VR H ρ F w v x) (e : Ev H ρ H' ρ')
    (hF : ∀ b, F b → F' b) (hw : ∀ b, F b → w'.heap[b]? = w.heap[b]?) : VR H' ρ' F' w' v x := by
  induction h with
  | imm h => exact .imm (h.mono hF hw)
  | ref id g o n A c h => exact .ref id g o n A c (h.mono e)
  | rptr id g i o x h => exact .rptr id g i o x (h.mono e)
  | bptr id o x h => exact .bptr id o x (h.mono e)
  | mp id b h => exact .mp id b (h.mono e)
  | itr id x h1 h => exact .itr id x h1 (h.mono e)
  | agg cs us hl h1 hr ih => exact .agg cs us hl h1 ih
  | tup cs us hl hr ih => exact .tup cs us hl ih
  | fn f cs us hl hr ih => exact .fn f cs us hl ih

structure Kept (B : Nat) (F : Nat → Prop) (w w' : World) : Prop where
  os : w'.os = w.os
  tape : w'.tape = w.tape
  output : w'.output = w.output
  size : w.heap.size ≤ w'.heap.size
  block : ∀ k, k < w.heap.size → (k < B ∨ F k) → w'.heap[k]? = w.heap[k]?

theorem Kept.refl (B : Nat) (F : Nat → Prop) (w : World) : Kept B F w w := ⟨rfl, rfl, rfl, Nat.le_refl _, fun _ _ _ => rfl⟩
theorem Kept.trans {B : Nat} {F F' : Nat → Prop} {a b c : World} (h : Kept B F a b) (k : Kept B F' b c) (hF : ∀ b, F b → F' b) : Kept B F a c :=
  ⟨k.os.trans h.os, k.tape.trans h.tape, k.output.trans h.output, Nat.le_trans h.size k.size, fun i hi hc => (k.block i (Nat.lt_of_lt_of_le hi h.size) (hc.imp id (hF i))).trans (h.block i hi hc)⟩

def blk : Value → Option Nat
  | .slice (some a) _ _ => some a.block
  | .pointer (some a) => some a.block
  | .map (some r) => some r
  | _ => none

/-- What a row of the frame is in memory. -/
structure RowRep (B : Nat) (ρ : List Value) (F : Nat → Prop) (w : World) (id T s : Nat) (es : List AV) (v : Value) (us : List Value) : Prop where
  at_ : ρ[id]? = some v
  own : w.ownsRow B T s v es.length us
  pos : 0 < s
  cells : ∀ e ∈ es, e.cells.length = s
  one : ∀ u ∈ us, u.oneCell' = true
  rel : ∀ (j : Nat) (c : AV) (u : Value), (flat es)[j]? = some c → us[j]? = some u → IR F w c u
  free : ∀ b, blk v = some b → ¬ F b

/-- What a row of the frame whose elements may hold slices of rows of the frame is in memory. -/
structure RRep (B : Nat) (H : List AO) (ρ : List Value) (F : Nat → Prop) (w : World) (id T s : Nat) (es : List AV) (v : Value) (us : List Value) : Prop where
  at_ : ρ[id]? = some v
  own : w.ownsRow B T s v es.length us
  pos : 0 < s
  cells : ∀ e ∈ es, e.cells.length = s
  one : ∀ u ∈ us, u.oneCell' = true
  rel : ∀ (j : Nat) (c : AV) (u : Value), (flat es)[j]? = some c → us[j]? = some u → VR H ρ F w c u
  free : ∀ b, blk v = some b → ¬ F b

/-- What a variable of the frame is in memory. -/
structure BoxRep (B : Nat) (H : List AO) (ρ : List Value) (F : Nat → Prop) (w : World) (id T s : Nat) (e : AV) (b : Nat) (us : List Value) : Prop where
  at_ : ρ[id]? = some (.pointer (some ⟨b, 0, none⟩))
  own : w.heap[b]? = some (.cells us.toArray T (0, 0))
  base : B ≤ b
  cells : e.cells.length = s
  len : us.length = s
  one : ∀ u ∈ us, u.oneCell' = true
  rel : ∀ (j : Nat) (c : AV) (u : Value), e.cells[j]? = some c → us[j]? = some u → VR H ρ F w c u
  free : ¬ F b

def AO.own : AO → Bool
  | .row .. => true
  | .box .. => true
  | .obj .. => true
  | .rr .. => true
  | _ => false

/-- What a map or an iterator of the frame is in memory. -/
structure ObjRep (B : Nat) (ρ : List Value) (F : Nat → Prop) (w : World) (id : Nat) (d : OD) (b c : Nat) : Prop where
  at_ : ρ[id]? = some (d.handle b c)
  own : d.is (w.heap[b]?)
  base : B ≤ b
  lt : b < w.heap.size
  free : ¬ F b

structure HeapRep (B : Nat) (F : Nat → Prop) (H : List AO) (ρ : List Value) (w : World) : Prop where
  len : ρ.length = H.length
  base : B ≤ w.heap.size
  fb : ∀ b, F b → b < w.heap.size
  row : ∀ (id T s g : Nat) (es : List AV), H[id]? = some (.row T s g es) → ∃ v us, RowRep B ρ F w id T s es v us
  box : ∀ (id T s : Nat) (e : AV), H[id]? = some (.box T s e) → ∃ b us, BoxRep B H ρ F w id T s e b us
  fz : ∀ (id s g : Nat) (es : List AV), H[id]? = some (.fz s g es) → ∃ v, ρ[id]? = some v ∧ IR F w (.sl s es) v
  obj : ∀ (id : Nat) (d : OD), H[id]? = some (.obj d) → ∃ b c, ObjRep B ρ F w id d b c
  rr : ∀ (id T s g : Nat) (es : List AV), H[id]? = some (.rr T s g es) → ∃ v us, RRep B H ρ F w id T s es v us
  dist : ∀ (id id' : Nat) (o o' : AO) (v v' : Value) (b : Nat), H[id]? = some o → H[id']? = some o' → o.own = true → o'.own = true → ρ[id]? = some v → ρ[id']? = some v' →
    blk v = some b → blk v' = some b → id = id'

theorem flat_len {s : Nat} : ∀ {es : List AV}, (∀ e ∈ es, e.cells.length = s) → (flat es).length = es.length * s
  | [], _ => by simp [flat]
  | e :: es, h => by
    have h1 := h e (by simp)
    have h2 := flat_len (s := s) (es := es) (fun x hx => h x (by simp [hx]))
    simp only [flat, List.flatMap_cons, List.length_append, List.length_cons] at h2 ⊢
    rw [h1, h2, Nat.add_mul]; omega

theorem flat_get {s : Nat} : ∀ {es : List AV} {i j : Nat} {e : AV}, (∀ e ∈ es, e.cells.length = s) → es[i]? = some e → j < s → (flat es)[i * s + j]? = e.cells[j]?
  | [], i, j, e, _, he, _ => by simp at he
  | x :: es, 0, j, e, h, he, hj => by
    simp at he; subst he
    have h1 := h x (by simp)
    simp only [flat, List.flatMap_cons, Nat.zero_mul, Nat.zero_add]
    rw [List.getElem?_append_left (by omega)]
  | x :: es, i + 1, j, e, h, he, hj => by
    have h1 := h x (by simp)
    have h2 := flat_get (s := s) (es := es) (i := i) (j := j) (fun y hy => h y (by simp [hy])) (by simpa using he) hj
    simp only [flat, List.flatMap_cons] at h2 ⊢
    rw [List.getElem?_append_right (by rw [h1, Nat.add_mul]; omega), h1, ← h2]
    congr 1
    rw [Nat.add_mul]; omega

end Go.PI
