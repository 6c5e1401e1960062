/- From the row's reading of an argument to the interpreter's value: its cells, by its type. No condition. -/
import Derived.Test.YtpphfbfmoipoaaaDoorPi21
import Derived.ChangeArms
import Derived.OpenShut
import Derived.DataReads
namespace Go.PI
open Go.RowKit

inductive Ty where
  | bool
  | int (k : IntKind)
  | str
  | sl (ag : Bool) (ts : List Ty)
  | any
  deriving Inhabited

/-- a cell of the type -/
inductive HasTy : Ty → AV → Prop
  | bool (b : Bool) : HasTy .bool (.bool b)
  | int (k : IntKind) (n : Int) (h : (Lit.int k n).wf = true) : HasTy (.int k) (.int k n)
  | str (l : List UInt8) (h : l.length ≤ maxLen) : HasTy .str (.str l)
  | any : HasTy .any .top
  | sl (ag : Bool) (ts : List Ty) (es : List AV) (hl : es.length ≤ maxLen) (hn : ∀ e ∈ es, e.cells.length = ts.length) (hg : ag = true → ∀ e ∈ es, ∃ cs, e = .agg cs)
      (hs : ag = false → ∀ e ∈ es, e.cells = [e])
      (h : ∀ e ∈ es, ∀ (j : Nat) (t : Ty) (c : AV), ts[j]? = some t → e.cells[j]? = some c → HasTy t c) : HasTy (.sl ag ts) (.sl ts.length es)

theorem HasTy.cells {t : Ty} {c : AV} (h : HasTy t c) : c.cells = [c] := by cases h <;> rfl

/-- cells read: the model's, the interpreter's, their types -/
inductive Rd (F : Nat → Prop) (W : World) : List Value → List AV → List Ty → Prop
  | nil : Rd F W [] [] []
  | cons {u : Value} {c : AV} {t : Ty} {us : List Value} {cs : List AV} {ts : List Ty} (h1 : u.oneCell' = true) (hi : IR F W c u) (ht : HasTy t c) (h : Rd F W us cs ts) : Rd F W (u :: us) (c :: cs) (t :: ts)

section
variable {F : Nat → Prop} {W : World}
theorem Rd.append {us us' : List Value} {cs cs' : List AV} {ts ts' : List Ty} (h : Rd F W us cs ts) (h' : Rd F W us' cs' ts') : Rd F W (us ++ us') (cs ++ cs') (ts ++ ts') := by
  induction h with
  | nil => exact h'
  | cons h1 hi ht _ ih => exact .cons h1 hi ht ih
theorem Rd.len {us : List Value} {cs : List AV} {ts : List Ty} (h : Rd F W us cs ts) : cs.length = us.length ∧ ts.length = us.length := by
  induction h with
  | nil => exact ⟨rfl, rfl⟩
  | cons _ _ _ _ ih => exact ⟨by simp [ih.1], by simp [ih.2]⟩
theorem Rd.one {us : List Value} {cs : List AV} {ts : List Ty} (h : Rd F W us cs ts) : ∀ u ∈ us, u.oneCell' = true := by
  induction h with
  | nil => intro u hu; cases hu
  | cons h1 _ _ _ ih =>
    intro u hu
    rcases List.mem_cons.1 hu with rfl | hu
    · exact h1
    · exact ih u hu
theorem Rd.ir {us : List Value} {cs : List AV} {ts : List Ty} (h : Rd F W us cs ts) : ∀ (j : Nat) (c : AV) (u : Value), cs[j]? = some c → us[j]? = some u → IR F W c u := by
  induction h with
  | nil => intro j c u hc; simp at hc
  | cons _ hi _ _ ih =>
    intro j c u hc hu
    cases j with
    | zero => simp at hc hu; subst hc hu; exact hi
    | succ j => simp at hc hu; exact ih j c u hc hu
theorem Rd.ty {us : List Value} {cs : List AV} {ts : List Ty} (h : Rd F W us cs ts) : ∀ (j : Nat) (t : Ty) (c : AV), ts[j]? = some t → cs[j]? = some c → HasTy t c := by
  induction h with
  | nil => intro j t c hc; simp at hc
  | cons _ _ ht _ ih =>
    intro j t c hc hu
    cases j with
    | zero => simp at hc hu; subst hc hu; exact ht
    | succ j => simp at hc hu; exact ih j t c hc hu
end

/- the types of a type's cells -/
def catTys (P : Program) (g : TypeId → Option (List Ty)) : Nat → List Field → Option (List Ty)
  | _, [] => some []
  | off, f :: r => if f.offset = off then (g f.type).bind fun a => if a.length = P.cellsOf f.type then (catTys P g (off + a.length) r).map (a ++ ·) else none else none

def isStruct (P : Program) (e : TypeId) : Bool := match P.underlying e with
  | some (.struct _) => true
  | some (.array _ _) => true
  | _ => false

/-- an array's elements, as a struct's fields -/
def arrFs (e : TypeId) (m z : Nat) : List Field := (List.range m).map fun i => { (default : Field) with type := e, offset := i * z }

def tys (P : Program) : Nat → TypeId → Option (List Ty)
  | 0, _ => none
  | n + 1, t => match P.underlying t with
    | some .bool => some [.bool]
    | some (.int k) => some [.int k]
    | some .string => some [.str]
    | some (.slice e) => match tys P n e with
      | some ts => if ts.length = P.cellsOf e ∧ 0 < ts.length ∧ (isStruct P e = true ∨ ts.length = 1) then some [.sl (isStruct P e) ts] else some [.any]
      | none => some [.any]
    | some (.struct fs) => (catTys P (tys P n) 0 fs.toList).bind fun ts => if ts.length = P.cellsOf t then some ts else none
    | some (.array m e) => (catTys P (tys P n) 0 (arrFs e m (P.cellsOf e))).bind fun ts => if ts.length = P.cellsOf t then some ts else none
    | _ => none

/-- an element's value out of its cells -/
def mkEl (ag : Bool) (cs : List AV) : AV := if ag then .agg cs else cs.headD .top

theorem mkEl_cells {F : Nat → Prop} {W : World} {us : List Value} {cs : List AV} {ts : List Ty} (h : Rd F W us cs ts) {ag : Bool} (ha : ag = true ∨ ts.length = 1) : (mkEl ag cs).cells = cs := by
  cases ag with
  | true => rfl
  | false =>
    have h1 : ts.length = 1 := by simpa using ha
    cases h with
    | nil => simp at h1
    | cons a b c d => cases d with
      | nil => exact c.cells
      | cons => simp at h1

section
variable {T : Type} {enc : TypeId × Value → T} {P : Program} {W : World} {base : Nat} {spare : Nat → Bool} {held : Bool}

theorem lt_of_cell {a : Addr} {u : Value} (h : W.cell? a = some u) : a.block < W.heap.size := by
  by_cases hlt : a.block < W.heap.size
  · exact hlt
  · have hn : W.heap[a.block]? = none := by simp; omega
    simp [World.cell?, hn] at h

theorem add_add (a : Addr) (i j k : Nat) (h : i + j = k) : (a.add i).add j = a.add k := by
  subst h
  by_cases hi : i = 0
  · subst hi; simp [Addr.add]
  · by_cases hj : j = 0
    · subst hj; simp [Addr.add]
    · simp [Addr.add, hi, hj, Nat.add_assoc]
theorem row_read (s : Nat) (a : Addr) (ag : Bool) (ts : List Ty) (hs : ts.length = s) (ha : ag = true ∨ ts.length = 1) (len : Nat)
    (hel : ∀ i, i < len → ∃ us cs, W.cells? base (a.add (i * s)) s = some us ∧ Rd (fun b => b < W.heap.size) W us cs ts) : ∀ m, m ≤ len →
    ∃ (es : List AV) (us : List Value), es.length = m ∧ us.length = m * s ∧ (flat es).length = us.length ∧ (∀ u ∈ us, u.oneCell' = true) ∧ (∀ j u, us[j]? = some u → W.cell? (a.add j) = some u) ∧
      (∀ (j : Nat) (c : AV) (u : Value), (flat es)[j]? = some c → us[j]? = some u → IR (fun b => b < W.heap.size) W c u) ∧ (∀ e ∈ es, ∃ us' cs, e = mkEl ag cs ∧ Rd (fun b => b < W.heap.size) W us' cs ts)
  | 0, _ => ⟨[], [], rfl, by simp, rfl, by simp, by simp, by simp, by simp⟩
  | m + 1, hm => by
    obtain ⟨es, us, h1, h2, h3, h4, h5, h6, h7⟩ := row_read s a ag ts hs ha len hel m (by omega)
    obtain ⟨us', cs, hc, hr⟩ := hel m (by omega)
    obtain ⟨_, hl, hcell⟩ := World.cells?_some hc
    have hcl := hr.len
    have hfl : flat (es ++ [mkEl ag cs]) = flat es ++ cs := by
      simp only [flat, List.flatMap_append, List.flatMap_cons, List.flatMap_nil, List.append_nil]
      rw [mkEl_cells hr ha]
    refine ⟨es ++ [mkEl ag cs], us ++ us', by simp [h1], by simp [h2, hl, Nat.succ_mul], ?_, ?_, ?_, ?_, ?_⟩
    · rw [hfl]; simp [h3, hcl.1]
    · intro u hu
      rcases List.mem_append.1 hu with hu | hu
      · exact h4 u hu
      · exact hr.one u hu
    · intro j u hu
      by_cases hj : j < us.length
      · rw [List.getElem?_append_left hj] at hu; exact h5 j u hu
      · rw [List.getElem?_append_right (by omega)] at hu
        have hlt : j - us.length < us'.length := (List.getElem?_eq_some_iff.1 hu).1
        have := hcell (j - us.length) (by omega)
        rw [hu] at this
        rw [add_add a (m * s) (j - us.length) j (by omega)] at this
        exact this
    · intro j c u hc' hu
      rw [hfl] at hc'
      by_cases hj : j < us.length
      · rw [List.getElem?_append_left hj] at hu
        rw [List.getElem?_append_left (by omega)] at hc'
        exact h6 j c u hc' hu
      · rw [List.getElem?_append_right (by omega)] at hu
        rw [List.getElem?_append_right (by omega), h3] at hc'
        exact hr.ir _ c u hc' hu
    · intro e he
      rcases List.mem_append.1 he with he | he
      · exact h7 e he
      · simp at he; exact ⟨us', cs, he, hr⟩

theorem cat_read (g : TypeId → Option (List Ty)) (cs : List Value) : ∀ (fs : List Field) (off : Nat) (ts : List Ty), catTys P g off fs = some ts → off + ts.length = cs.length →
    (∀ f ∈ fs, ∀ a, g f.type = some a → ∃ avs, Rd (fun b => b < W.heap.size) W ((cs.drop f.offset).take (P.cellsOf f.type)) avs a) →
    ∃ avs, Rd (fun b => b < W.heap.size) W (cs.drop off) avs ts
  | [], off, ts, h, hl, _ => by
    simp [catTys] at h
    subst h
    refine ⟨[], ?_⟩
    rw [List.drop_eq_nil_of_le (by simp at hl; omega)]
    exact .nil
  | f :: r, off, ts, h, hl, hf => by
    simp only [catTys] at h
    split at h
    · rename_i ho
      cases hg : g f.type with
      | none => rw [hg] at h; cases h
      | some a =>
        rw [hg, Option.bind_some] at h
        split at h
        · rename_i hla
          cases hr : catTys P g (off + a.length) r with
          | none => rw [hr] at h; cases h
          | some b =>
            rw [hr] at h
            simp at h
            subst h
            obtain ⟨avs, h1⟩ := hf f (by simp) a hg
            obtain ⟨avs', h2⟩ := cat_read g cs r (off + a.length) b hr (by simp at hl; omega) (fun f' hf' => hf f' (by simp [hf']))
            refine ⟨avs ++ avs', ?_⟩
            have := h1.append h2
            rw [ho, ← hla, ← List.drop_drop, List.take_append_drop] at this
            exact this
        · cases h
    · cases h

/-- AN ARGUMENT's CELLS, as the interpreter reads them -/
theorem rd_of_trod : ∀ (n : Nat) (t : TypeId) (ts : List Ty), tys P n t = some ts → ∀ (fuel : Nat) (cs : List Value) (x : DataW T × List MemPlace),
    DataW.trod enc P W base spare held fuel t cs = some x → ∃ avs, Rd (fun b => b < W.heap.size) W cs avs ts
  | 0, t, ts, h => by cases h
  | n + 1, t, ts, h => by
    intro fuel cs x hx
    unfold tys at h
    split at h
    · rename_i hu
      cases h
      obtain ⟨b, rfl, _⟩ := DataW.trod_bool hu hx
      exact ⟨[.bool b], .cons rfl (.bool b) (.bool b) .nil⟩
    · rename_i k hu
      cases h
      obtain ⟨m, rfl, _, hw⟩ := DataW.trod_int hu hx
      exact ⟨[.int k m], .cons rfl (.int k m) (.int k m hw) .nil⟩
    · rename_i hu
      cases h
      obtain ⟨s, rfl, _, hw⟩ := DataW.trod_string hu hx
      refine ⟨[.str s.data.toList], .cons rfl ?_ (.str _ (by simpa using hw)) .nil⟩
      have := IR.str (F := fun b => b < W.heap.size) (w := W) s.data.toList
      simpa using this
    · rename_i e hu
      have hany : ∃ avs, Rd (fun b => b < W.heap.size) W cs avs [.any] := by
        rcases DataW.trod_slice hu hx with ⟨rfl, _⟩ | ⟨a, len, cap, elems, rest, m, _, rfl, _⟩
        · exact ⟨[.top], .cons rfl (.top _) .any .nil⟩
        · exact ⟨[.top], .cons rfl (.top _) .any .nil⟩
      cases he : tys P n e with
      | none =>
        rw [he] at h
        cases h
        exact hany
      | some ts' =>
        rw [he] at h
        simp only at h
        split at h
        · rename_i hc
          obtain ⟨hc1, hc2, hc3⟩ := hc
          cases h
          rcases DataW.trod_slice hu hx with ⟨rfl, _⟩ | ⟨a, len, cap, elems, rest, m, _, rfl, _, hb, hl, hm, hlen, hel, _⟩
          · refine ⟨[.sl ts'.length []], .cons rfl ?_ (.sl _ _ [] (by simp) (by simp) (by simp) (by simp) (by simp)) .nil⟩
            exact IR.sl ts'.length [] none 0 [] (by simp) (by simp) (by simp) rfl (by simp) (by simp) (by simp [flat])
          · obtain ⟨es, us, h1, h2, h3, h4, h5, h6, h7⟩ := row_read (W := W) (base := base) ts'.length a (isStruct P e) ts' rfl hc3 len (fun i hi => by
              have := hel i hi
              rw [← hc1] at this
              rw [List.getElem?_eq_getElem (by omega)] at this
              cases hcs : W.cells? base (a.add (i * ts'.length)) ts'.length with
              | none => rw [hcs] at this; cases this
              | some us =>
                rw [hcs, Option.bind_some] at this
                obtain ⟨avs, hr⟩ := rd_of_trod n e ts' he _ us _ this
                exact ⟨us, avs, rfl, hr⟩) len (Nat.le_refl _)
            have hcl : ∀ e' ∈ es, e'.cells.length = ts'.length := by
              intro e' he'
              obtain ⟨us', cs', rfl, hr⟩ := h7 e' he'
              rw [mkEl_cells hr hc3, hr.len.1, hr.len.2]
            refine ⟨[.sl ts'.length es], .cons rfl ?_ (.sl _ _ es (by omega) hcl ?_ ?_ ?_) .nil⟩
            · have := IR.sl (F := fun b => b < W.heap.size) (w := W) ts'.length es (some a) cap us (by omega) hm hcl h3 h4 (fun hne => by
                refine ⟨a, rfl, ?_, h5⟩
                have hpos : 0 < us.length := by
                  rw [h2]
                  have : 0 < es.length := List.length_pos_iff.2 hne
                  exact Nat.mul_pos (by omega) hc2
                have := lt_of_cell (h5 0 _ (List.getElem?_eq_getElem hpos))
                simpa [Addr.add] using this) h6
              rw [h1] at this
              exact this
            · intro hg e' he'
              obtain ⟨us', cs', rfl, hr⟩ := h7 e' he'
              rw [hg]
              exact ⟨cs', rfl⟩
            · intro hg e' he'
              obtain ⟨us', cs', rfl, hr⟩ := h7 e' he'
              rw [mkEl_cells hr hc3]
              rw [hg] at hc3 ⊢
              have hl1 : ts'.length = 1 := by simpa using hc3
              cases hr with
              | nil => simp at hl1
              | cons a b c d => cases d with
                | nil => rfl
                | cons => simp at hl1
            · intro e' he' j t c ht hc'
              obtain ⟨us', cs', rfl, hr⟩ := h7 e' he'
              rw [mkEl_cells hr hc3] at hc'
              exact hr.ty j t c ht hc'
        · cases h
          exact hany
    · rename_i fs hu
      cases hct : catTys P (tys P n) 0 fs.toList with
      | none => rw [hct] at h; cases h
      | some ts' =>
        rw [hct, Option.bind_some] at h
        split at h
        · rename_i hlt
          cases h
          obtain ⟨xs, m, rfl, _, hl, hlen, hf⟩ := DataW.trod_struct hu hx
          have := cat_read (W := W) (tys P n) cs fs.toList 0 ts hct (by omega) (fun f hf' a ha => by
            obtain ⟨i, hi, hfi⟩ := List.getElem_of_mem hf'
            have hg : fs[i]? = some f := by
              rw [← Array.getElem?_toList, List.getElem?_eq_getElem hi, hfi]
            have := hf i f hg
            rw [List.getElem?_eq_getElem (by simp at hi; omega)] at this
            exact rd_of_trod n f.type a ha _ _ _ this)
          simpa using this
        · cases h
    · rename_i m e hu
      cases hct : catTys P (tys P n) 0 (arrFs e m (P.cellsOf e)) with
      | none => rw [hct] at h; cases h
      | some ts' =>
        rw [hct, Option.bind_some] at h
        split at h
        · rename_i hlt
          cases h
          obtain ⟨xs, q, rfl, _, hl, hlen, hf⟩ := DataW.trod_array hu hx
          have := cat_read (W := W) (tys P n) cs (arrFs e m (P.cellsOf e)) 0 ts hct (by omega) (fun f hf' a ha => by
            unfold arrFs at hf'
            obtain ⟨i, hi, rfl⟩ := List.mem_map.1 hf'
            have hi' : i < m := by simpa using hi
            have := hf i hi'
            rw [List.getElem?_eq_getElem (by omega)] at this
            exact rd_of_trod n e a ha _ _ _ this)
          simpa using this
        · cases h
    · cases h
end
end Go.PI
