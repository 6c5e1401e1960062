/- SignalStays: the law's function. No condition. -/
import Derived.Test.YtlkfejigeeddaaaDoorSty
namespace Go.Proofs.YtlkfejigeeddaaaDoor
open Go.PI
set_option maxRecDepth 100000
set_option maxHeartbeats 8000000
set_option linter.unusedSimpArgs false
structure Op3 where
  kd : Int
  n : Int
  how : Int
abbrev encO (o : Op3) : AV := .agg [.int .i64 o.kd, .int .i64 o.n, .int .i64 o.how]
theorem ops3 {c : AV} (h : HasTy (.sl true [.int .i64, .int .i64, .int .i64]) c) : ∃ l : List Op3, c = .sl 3 (l.map encO) ∧ l.length ≤ maxLen ∧ ∀ x ∈ l, True :=
  HasTy.structs h (fun cs hl hj => by
    have h0 := Tys.of _ cs hl hj
    obtain ⟨_, _, rfl, k0, h0⟩ := h0.cons_inv
    obtain ⟨_, _, rfl, k1, h0⟩ := h0.cons_inv
    obtain ⟨_, _, rfl, k2, h0⟩ := h0.cons_inv
    obtain rfl := h0.nil_inv
    obtain ⟨a, rfl, _⟩ := k0.int_inv
    obtain ⟨b, rfl, _⟩ := k1.int_inv
    obtain ⟨d, rfl, _⟩ := k2.int_inv
    exact ⟨⟨a, b, d⟩, rfl, trivial⟩)
theorem frz_box (ids : List Nat) (T s : Nat) (v : AV) (Z : List AO) : ∃ Z', frz ids (.box T s v :: Z) = .box T s v :: Z' ∧ Z'.length = Z.length := by
  have hl := frz_len ids (.box T s v :: Z)
  have h0 := frz_get ids (.box T s v :: Z) 0
  cases hf : frz ids (.box T s v :: Z) with
  | nil => rw [hf] at hl; simp at hl
  | cons o Z' =>
    rw [hf] at hl h0
    refine ⟨Z', ?_, by simpa using hl⟩
    have : some o = some (AO.box T s v) := by
      have h0' : some o = if 0 ∈ ids then (some (AO.box T s v)).map frzO else some (AO.box T s v) := by simpa using h0
      rw [h0']
      split <;> rfl
    rw [Option.some.inj this]
theorem cv0_isL (H : List AO) {a : AV} {l : List Int} (h : IsL a l) : conv0 H a = a := by cases h <;> rfl
theorem sh_isL (n : Nat) {a : AV} {l : List Int} (h : IsL a l) : shift0 n a = a := by cases h <;> rfl
theorem sh_ref (k id g o n : Nat) : shift0 k (.ref id g o n) = .ref (k + id) g o n := rfl
theorem sh_e0 (k : Nat) : shift0 k .e0 = .e0 := rfl
theorem cv0_e0 (H : List AO) : conv0 H .e0 = .e0 := rfl
theorem cvr (o : AO) (Z' R : List AO) (n m : Nat) (l : List Int) (hn : n = Z'.length + m + 1) (h : R[m]? = some (.row 3 1 0 (im l))) : conv0 (o :: (Z' ++ R)) (.ref n 0 0 l.length) = il l := by
  subst hn
  have e : (o :: (Z' ++ R))[Z'.length + m + 1]? = some (.row 3 1 0 (im l)) := by rw [List.getElem?_cons_succ, get_app_add, h]
  simp only [conv0, rdRow, e]
  simp
theorem cv0_int (H : List AO) (k : IntKind) (n : Int) : conv0 H (.int k n) = .int k n := rfl
theorem rf0_int (k : IntKind) (n : Int) : refs0 (.int k n) = [] := rfl
theorem t9 (sc : List Op3) (hs : sc.length ≤ 60) : ∀ (k j : Nat), j + k = sc.length → ∀ (a b d a' b' d' : AV) (p i c : List Int) (Z : List AO), conv0 (.box 30 3 (.agg [a, b, d]) :: Z) a = a' → conv0 (.box 30 3 (.agg [a, b, d]) :: Z) b = b' → conv0 (.box 30 3 (.agg [a, b, d]) :: Z) d = d' → IsL a' p → IsL b' i → IsL d' c → OkS p i c →
    run tbl (.cl [.tmp 4]) [.blk 0, .seq (f9r10.seq .ret)] (.loop [1, 2, 5] f9b9) [(1, .sl 3 (sc.map encO)), (2, .bptr 0 0), (5, .int .i64 j)] (.box 30 3 (.agg [a, b, d]) :: Z) = some (.bool true, [])
  | 0, j, h => by
    intro a b d a' b' d' p i c Z g1 g2 g3 ha hb hd ok
    rw [run_loopD _ _ f9b9_eq]
    simp [show ¬ j < sc.length by omega, c10]
  | k + 1, j, h => by
    intro a b d a' b' d' p i c Z g1 g2 g3 ha hb hd ok
    have hj : j < sc.length := by omega
    have ih := t9 sc hs k (j + 1) (by omega)
    rw [Int.natCast_succ] at ih
    have hp := c32 ok ha hb hd sc[j].kd sc[j].n sc[j].how
    rw [run_loopD _ _ f9b9_eq]
    obtain ⟨Z', hz, hl⟩ := frz_box (refs0 a ++ (refs0 b ++ refs0 d)) 30 3 (.agg [a, b, d]) Z
    generalize hr : callW tbl 32 [.agg [a', b', d'], .agg [.int .i64 sc[j].kd, .int .i64 sc[j].n, .int .i64 sc[j].how]] = r at hp
    cases hp with
    | same =>
      have h26 := c26 (show p.length ≤ 1000 by have := ok.ap.length; omega) (show i.length ≤ 1000 by have := ok.ai.length; omega) (show c.length ≤ 1000 by have := ok.ac.length; omega) ha hb hd
      rw [vd0_eq, vd_of_ok ok] at h26
      have k1 := fun H => cv0_isL H ha
      have k2 := fun H => cv0_isL H hb
      have k3 := fun H => cv0_isL H hd
      have s1 := fun n => sh_isL n ha
      have s2 := fun n => sh_isL n hb
      have s3 := fun n => sh_isL n hd
      have ih := ih a' b' d' a' b' d' p i c Z' (k1 _) (k2 _) (k3 _) ha hb hd ok
      simp [-conv0, -refs0, -shift0, cv0_int, rf0_int, hj, g1, g2, g3, hr, hz, k1, k2, k3, s1, s2, s3, h26, wrapS j (by omega), ih]
    | @all p1 i1 d1 h' =>
      have h26 := c26 (show p1.length ≤ 1000 by have := h'.ap.length; omega) (show i1.length ≤ 1000 by have := h'.ai.length; omega) (show d1.length ≤ 1000 by have := h'.ac.length; omega) (.il p1) (.il i1) (.il d1)
      rw [vd0_eq, vd_of_ok h'] at h26
      have k1 := fun o => cvr o Z' [.row 3 1 0 (im p1), .row 3 1 0 (im i1), .row 3 1 0 (im d1)] (Z.length + 1) 0 p1 (by omega) rfl
      have k2 := fun o => cvr o Z' [.row 3 1 0 (im p1), .row 3 1 0 (im i1), .row 3 1 0 (im d1)] (Z.length + 1 + 1) 1 i1 (by omega) rfl
      have k3 := fun o => cvr o Z' [.row 3 1 0 (im p1), .row 3 1 0 (im i1), .row 3 1 0 (im d1)] (Z.length + 1 + 2) 2 d1 (by omega) rfl
      have ih := ih _ _ _ _ _ _ p1 i1 d1 _ (k1 _) (k2 _) (k3 _) (.il p1) (.il i1) (.il d1) h'
      simp [-conv0, -refs0, -shift0, sh_ref, cv0_int, rf0_int, hj, g1, g2, g3, hr, hz, k1, k2, k3, h26, wrapS j (by omega), ih]
    | @fork i1 d1 h' =>
      have h26 := c26 (show ([] : List Int).length ≤ 1000 by simp) (show i1.length ≤ 1000 by have := h'.ai.length; omega) (show d1.length ≤ 1000 by have := h'.ac.length; omega) .e0 (.il i1) (.il d1)
      rw [vd0_eq, vd_of_ok h'] at h26
      have k2 := fun o => cvr o Z' [.row 3 1 0 (im i1), .row 3 1 0 (im d1)] (Z.length + 1) 0 i1 (by omega) rfl
      have k3 := fun o => cvr o Z' [.row 3 1 0 (im i1), .row 3 1 0 (im d1)] (Z.length + 1 + 1) 1 d1 (by omega) rfl
      have ih := ih .e0 _ _ .e0 _ _ [] i1 d1 _ rfl (k2 _) (k3 _) .e0 (.il i1) (.il d1) h'
      simp [-conv0, -refs0, -shift0, sh_ref, sh_e0, cv0_e0, cv0_int, rf0_int, hj, g1, g2, g3, hr, hz, k2, k3, h26, wrapS j (by omega), ih]
    | @exec p1 i1 h' =>
      have h26 := c26 (show p1.length ≤ 1000 by have := h'.ap.length; omega) (show i1.length ≤ 1000 by have := h'.ai.length; omega) (show ([] : List Int).length ≤ 1000 by simp) (.il p1) (.il i1) .e0
      rw [vd0_eq, vd_of_ok h'] at h26
      have k1 := fun o => cvr o Z' [.row 3 1 0 (im p1), .row 3 1 0 (im i1)] (Z.length + 1) 0 p1 (by omega) rfl
      have k2 := fun o => cvr o Z' [.row 3 1 0 (im p1), .row 3 1 0 (im i1)] (Z.length + 1 + 1) 1 i1 (by omega) rfl
      have ih := ih _ _ .e0 _ _ .e0 p1 i1 [] _ (k1 _) (k2 _) rfl (.il p1) (.il i1) .e0 h'
      simp [-conv0, -refs0, -shift0, sh_ref, sh_e0, cv0_e0, cv0_int, rf0_int, hj, g1, g2, g3, hr, hz, k1, k2, h26, wrapS j (by omega), ih]
theorem c9 (p i c : List Int) (sc : List Op3) : callW tbl 9 [encS p i c, .sl 3 (sc.map encO)] = some (.bool true, []) := by
  rw [call_run tbl (f := 9) (fn := f9) rfl _ rfl]
  have h17 := c17 p i c
  by_cases hs : p.length ≤ 30 ∧ i.length ≤ 30 ∧ c.length ≤ 30
  · obtain ⟨l1, l2, l3⟩ := hs
    have h18 := c18 p i c (by omega) (by omega) (by omega)
    simp [l1, l2, l3] at h17
    by_cases hv : vd p i c = 0
    · have ok := ok_of_vd hv
      rw [hv] at h18
      by_cases h60 : (60 : Int) < sc.length
      · simp [f9, f9body, h17, h18, h60, c10]
      · have ht := t9 sc (by omega) sc.length 0 (by omega) (il p) (il i) (il c) (il p) (il i) (il c) p i c [] rfl rfl rfl (.il p) (.il i) (.il c) ok
        simp at ht
        simp [f9, f9body, h17, h18, h60, ht]
    · simp [f9, f9body, h17, h18, hv, c10]
  · rw [decide_eq_false hs] at h17
    simp [f9, f9body, h17, c10]
end Go.Proofs.YtlkfejigeeddaaaDoor
