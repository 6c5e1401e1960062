/- From an argument's type to its form; lists of values that are all of one form. No condition. -/
import Derived.Test.YtpphfbfmoipoaaaDoorPi24
namespace Go.PI

theorem HasTy.int_inv {k : IntKind} {c : AV} (h : HasTy (.int k) c) : ∃ n, c = .int k n ∧ (Lit.int k n).wf = true := by cases h with | int _ n hw => exact ⟨n, rfl, hw⟩
theorem HasTy.bool_inv {c : AV} (h : HasTy .bool c) : ∃ b, c = .bool b := by cases h with | bool b => exact ⟨b, rfl⟩
theorem HasTy.str_inv {c : AV} (h : HasTy .str c) : ∃ l, c = .str l ∧ l.length ≤ maxLen := by cases h with | str l hl => exact ⟨l, rfl, hl⟩
theorem HasTy.any_inv {c : AV} (h : HasTy .any c) : c = .top := by cases h; rfl
theorem HasTy.sl_inv {ag : Bool} {ts : List Ty} {c : AV} (h : HasTy (.sl ag ts) c) : ∃ es, c = .sl ts.length es ∧ es.length ≤ maxLen ∧ (∀ e ∈ es, e.cells.length = ts.length ∧ (ag = true → ∃ cs, e = .agg cs) ∧ (ag = false → e.cells = [e]) ∧
    ∀ (j : Nat) (t : Ty) (c : AV), ts[j]? = some t → e.cells[j]? = some c → HasTy t c) := by
  cases h with
  | sl _ _ es hl hn hg hs h => exact ⟨es, rfl, hl, fun e he => ⟨hn e he, fun ha => hg ha e he, fun ha => hs ha e he, h e he⟩⟩

theorem list_choose {α : Type} {P : α → Prop} {enc : α → AV} : ∀ {es : List AV}, (∀ e ∈ es, ∃ x, e = enc x ∧ P x) → ∃ l : List α, es = l.map enc ∧ ∀ x ∈ l, P x
  | [], _ => ⟨[], rfl, by simp⟩
  | e :: es, h => by
    obtain ⟨x, hx, hp⟩ := h e (by simp)
    obtain ⟨l, hl, hl2⟩ := list_choose (es := es) (fun e' he' => h e' (by simp [he']))
    exact ⟨x :: l, by simp [hx, hl], by simpa using ⟨hp, hl2⟩⟩

/-- a list of numbers -/
theorem HasTy.ints {k : IntKind} {c : AV} (h : HasTy (.sl false [.int k]) c) : ∃ l : List Int, c = .sl 1 (l.map (.int k)) ∧ l.length ≤ maxLen ∧ ∀ n ∈ l, (Lit.int k n).wf = true := by
  obtain ⟨es, rfl, hl, hes⟩ := h.sl_inv
  obtain ⟨l, rfl, hp⟩ := list_choose (enc := AV.int k) (P := fun n => (Lit.int k n).wf = true) (es := es) (fun e he => by
    obtain ⟨_, _, h2, h3⟩ := hes e he
    have hc := h2 rfl
    obtain ⟨n, rfl, hn⟩ := (h3 0 (.int k) e rfl (by rw [hc]; rfl)).int_inv
    exact ⟨n, rfl, hn⟩)
  exact ⟨l, rfl, by simpa using hl, hp⟩

/-- a list of strings -/
theorem HasTy.strs {c : AV} (h : HasTy (.sl false [.str]) c) : ∃ l : List (List UInt8), c = .sl 1 (l.map .str) ∧ l.length ≤ maxLen ∧ ∀ s ∈ l, s.length ≤ maxLen := by
  obtain ⟨es, rfl, hl, hes⟩ := h.sl_inv
  obtain ⟨l, rfl, hp⟩ := list_choose (enc := AV.str) (P := fun s => s.length ≤ maxLen) (es := es) (fun e he => by
    obtain ⟨_, _, h2, h3⟩ := hes e he
    have hc := h2 rfl
    obtain ⟨s, rfl, hs⟩ := (h3 0 .str e rfl (by rw [hc]; rfl)).str_inv
    exact ⟨s, rfl, hs⟩)
  exact ⟨l, rfl, by simpa using hl, hp⟩

/-- a list of structs -/
theorem HasTy.structs {α : Type} {P : α → Prop} {enc : α → AV} {ts : List Ty} {c : AV} (h : HasTy (.sl true ts) c)
    (one : ∀ cs : List AV, cs.length = ts.length → (∀ (j : Nat) (t : Ty) (c : AV), ts[j]? = some t → cs[j]? = some c → HasTy t c) → ∃ x, .agg cs = enc x ∧ P x) :
    ∃ l : List α, c = .sl ts.length (l.map enc) ∧ l.length ≤ maxLen ∧ ∀ x ∈ l, P x := by
  obtain ⟨es, rfl, hl, hes⟩ := h.sl_inv
  obtain ⟨l, rfl, hp⟩ := list_choose (enc := enc) (P := P) (es := es) (fun e he => by
    obtain ⟨h0, h1, _, h3⟩ := hes e he
    obtain ⟨cs, rfl⟩ := h1 rfl
    exact one cs h0 h3)
  exact ⟨l, rfl, by simpa using hl, hp⟩

theorem wf64 {n : Int} (h : (Lit.int .i64 n).wf = true) : -9223372036854775808 ≤ n ∧ n ≤ 9223372036854775807 := by
  simp [Lit.wf, IntKind.min, IntKind.max, IntKind.bits, IntKind.signed] at h
  omega

theorem drop_step {α : Type} {l : List α} {i : Nat} (h : i < l.length) : l.drop i = l[i] :: l.drop (i + 1) := List.drop_eq_getElem_cons h
/-- the fields of a struct -/
inductive Tys : List Ty → List AV → Prop where
  | nil : Tys [] []
  | cons {t : Ty} {c : AV} {ts : List Ty} {cs : List AV} : HasTy t c → Tys ts cs → Tys (t :: ts) (c :: cs)
theorem Tys.of : ∀ (ts : List Ty) (cs : List AV), cs.length = ts.length → (∀ (j : Nat) (t : Ty) (c : AV), ts[j]? = some t → cs[j]? = some c → HasTy t c) → Tys ts cs
  | [], [], _, _ => .nil
  | t :: ts, c :: cs, h, hj => .cons (hj 0 t c rfl rfl) (Tys.of ts cs (by simpa using h) fun j t' c' a b => hj (j + 1) t' c' (by simpa using a) (by simpa using b))
  | [], _ :: _, h, _ => by simp at h
  | _ :: _, [], h, _ => by simp at h
theorem Tys.cons_inv {t : Ty} {ts : List Ty} {cs : List AV} (h : Tys (t :: ts) cs) : ∃ c r, cs = c :: r ∧ HasTy t c ∧ Tys ts r := by cases h with | cons a b => exact ⟨_, _, rfl, a, b⟩
theorem Tys.nil_inv {cs : List AV} (h : Tys [] cs) : cs = [] := by cases h; rfl
/-- an argument's type, read off -/
theorem ArgTy.tys {P : Program} {n : Nat} {t : TypeId} {a : AV} {ts : List Ty} (h : ArgTy P n t a) (ht : Go.PI.tys P n t = some ts) : ∃ cs, a = mkEl (isStruct P t) cs ∧ Tys ts cs := by
  obtain ⟨ts', cs, h1, h2, h3, h4⟩ := h
  rw [ht] at h1
  cases h1
  exact ⟨cs, h2, .of _ _ h3 h4⟩
theorem ArgTy.one {P : Program} {n : Nat} {t : TypeId} {a : AV} {q : Ty} (h : ArgTy P n t a) (ht : Go.PI.tys P n t = some [q]) (hs : isStruct P t = false) : HasTy q a := by
  obtain ⟨cs, rfl, h2⟩ := h.tys ht
  obtain ⟨c, r, rfl, h3, h4⟩ := h2.cons_inv
  obtain rfl := h4.nil_inv
  rw [hs]
  exact h3
theorem ArgTy.struct {P : Program} {n : Nat} {t : TypeId} {a : AV} {ts : List Ty} (h : ArgTy P n t a) (ht : Go.PI.tys P n t = some ts) (hs : isStruct P t = true) : ∃ cs, a = .agg cs ∧ Tys ts cs := by
  obtain ⟨cs, rfl, h2⟩ := h.tys ht
  rw [hs]
  exact ⟨cs, rfl, h2⟩
@[simp] theorem take_len_map {α β : Type} (l : List α) (f : α → β) : (l.map f).take l.length = l.map f := by rw [← List.length_map (f := f)]; exact List.take_length
@[simp] theorem take_len {α : Type} (l : List α) : l.take l.length = l := List.take_length
end Go.PI
