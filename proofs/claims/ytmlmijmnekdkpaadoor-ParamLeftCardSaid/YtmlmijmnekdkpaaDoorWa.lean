/- Patterns, the plain law: what matches a prefix; the machine of states; both ends. No program, no condition. -/
import Derived.Test.YtmlmijmnekdkpaaDoorVa
namespace Go.Proofs.YtmlmijmnekdkpaaDoor
set_option maxRecDepth 100000
set_option linter.unusedSimpArgs false
section
variable {α : Type} (star : α → Bool) (tk : α → UInt8 → Bool)
/-- a list of items matches a string -/
inductive Mat : List α → List UInt8 → Prop
  | nil : Mat [] []
  | star {x : α} {p : List α} {t : List UInt8} : star x = true → Mat p t → Mat (x :: p) t
  | more {x : α} {p : List α} {b : UInt8} {t : List UInt8} : star x = true → Mat (x :: p) t → Mat (x :: p) (b :: t)
  | one {x : α} {p : List α} {b : UInt8} {t : List UInt8} : star x = false → tk x b = true → Mat p t → Mat (x :: p) (b :: t)
variable {star tk}
theorem Mat.app {p : List α} {s : List UInt8} (h : Mat star tk p s) : ∀ {q : List α} {t : List UInt8}, Mat star tk q t → Mat star tk (p ++ q) (s ++ t) := by
  induction h with
  | nil => intro q t h; exact h
  | star hx _ ih => intro q t h; exact .star hx (ih h)
  | more hx _ ih => intro q t h; exact .more hx (ih h)
  | one hx hb _ ih => intro q t h; exact .one hx hb (ih h)
theorem Mat.snoc_star {p : List α} {s : List UInt8} {x : α} (hx : star x = true) (h : Mat star tk p s) : Mat star tk (p ++ [x]) s := by
  have := h.app (q := [x]) (t := []) (.star hx .nil)
  rwa [List.append_nil] at this
theorem Mat.snoc_more {p : List α} {s : List UInt8} {x : α} {b : UInt8} (hx : star x = true) (h : Mat star tk (p ++ [x]) s) : Mat star tk (p ++ [x]) (s ++ [b]) := by
  generalize hq : p ++ [x] = q at h
  induction h generalizing p with
  | nil => cases p <;> simp at hq
  | @star y r t hy h ih =>
    cases p with
    | nil =>
      simp at hq
      obtain ⟨rfl, rfl⟩ := hq
      cases h
      exact .more hy (.star hy .nil)
    | cons z p =>
      simp at hq
      obtain ⟨rfl, rfl⟩ := hq
      exact .star hy (ih rfl)
  | more hy h ih =>
    exact .more hy (ih hq)
  | @one y r c t hy hb h ih =>
    cases p with
    | nil =>
      simp at hq
      obtain ⟨rfl, rfl⟩ := hq
      rw [hx] at hy; cases hy
    | cons z p =>
      simp at hq
      obtain ⟨rfl, rfl⟩ := hq
      exact .one hy hb (ih rfl)
theorem Mat.snoc_one {p : List α} {s : List UInt8} {x : α} {b : UInt8} (hx : star x = false) (hb : tk x b = true) (h : Mat star tk p s) : Mat star tk (p ++ [x]) (s ++ [b]) :=
  h.app (.one hx hb .nil)
theorem Mat.rev {p : List α} {s : List UInt8} (h : Mat star tk p s) : Mat star tk p.reverse s.reverse := by
  induction h with
  | nil => exact .nil
  | star hx _ ih => rw [List.reverse_cons]; exact ih.snoc_star hx
  | more hx _ ih => rw [List.reverse_cons] at ih; rw [List.reverse_cons, List.reverse_cons]; exact ih.snoc_more hx
  | one hx hb _ ih => rw [List.reverse_cons, List.reverse_cons]; exact ih.snoc_one hx hb
theorem mat_rev {p : List α} {s : List UInt8} : Mat star tk p.reverse s.reverse ↔ Mat star tk p s := by
  refine ⟨fun h => ?_, Mat.rev⟩
  have := h.rev
  rwa [List.reverse_reverse, List.reverse_reverse] at this
/-- an item at the end, read -/
theorem Mat.inv {p : List α} {s : List UInt8} {x : α} (h : Mat star tk (p ++ [x]) s) :
    (star x = true ∧ (Mat star tk p s ∨ ∃ t b, s = t ++ [b] ∧ Mat star tk (p ++ [x]) t)) ∨ (star x = false ∧ ∃ t b, s = t ++ [b] ∧ tk x b = true ∧ Mat star tk p t) := by
  have h1 := h.rev
  rw [List.reverse_append, List.reverse_cons, List.reverse_nil, List.nil_append, List.singleton_append] at h1
  generalize hs : s.reverse = r at h1
  have hs' : s = r.reverse := by rw [← hs, List.reverse_reverse]
  cases h1 with
  | star hx h2 =>
    refine .inl ⟨hx, .inl ?_⟩
    have := h2.rev
    rwa [List.reverse_reverse, ← hs'] at this
  | more hx h2 =>
    rename_i b t
    refine .inl ⟨hx, .inr ⟨t.reverse, b, by rw [hs', List.reverse_cons], ?_⟩⟩
    have := h2.rev
    rwa [List.reverse_cons, List.reverse_reverse] at this
  | one hx hb h2 =>
    rename_i b t
    refine .inr ⟨hx, t.reverse, b, by rw [hs', List.reverse_cons], hb, ?_⟩
    have := h2.rev
    rwa [List.reverse_reverse] at this
end
end Go.Proofs.YtmlmijmnekdkpaaDoor
