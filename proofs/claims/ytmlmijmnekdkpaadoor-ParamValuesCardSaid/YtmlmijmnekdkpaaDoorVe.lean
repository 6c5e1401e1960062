/- ParamUnset and ParamVariables: the laws' functions. No condition. -/
import Derived.Test.YtmlmijmnekdkpaaDoorVd
namespace Go.Proofs.YtmlmijmnekdkpaaDoor
open Go.PI
set_option maxRecDepth 100000
set_option maxHeartbeats 8000000
set_option linter.unusedSimpArgs false
theorem va_dig (e : En) (i : Nat) (h9 : i < 9) (hi : i < e.params.length) : vaV e [UInt8.ofNat (49 + i)] = (e.params[i], true) := by
  have h8 : i = 0 ∨ i = 1 ∨ i = 2 ∨ i = 3 ∨ i = 4 ∨ i = 5 ∨ i = 6 ∨ i = 7 ∨ i = 8 := by omega
  have h1 : spB [UInt8.ofNat (49 + i)] = false := by rcases h8 with rfl | rfl | rfl | rfl | rfl | rfl | rfl | rfl | rfl <;> decide
  have h2 : dgV [UInt8.ofNat (49 + i)] = some (i + 1) := by rcases h8 with rfl | rfl | rfl | rfl | rfl | rfl | rfl | rfl | rfl <;> decide
  unfold vaV
  rw [h1, h2, if_neg (by simp)]
  simp only
  rw [if_neg (by omega), Nat.add_sub_cancel, List.getElem?_eq_getElem hi]
  rfl
theorem wrap8 (n : Int) (h1 : 0 ≤ n) (h2 : n ≤ 255) : IntKind.u8.wrap n = n := by
  unfold IntKind.wrap
  simp [IntKind.bits, IntKind.signed]
  omega
theorem t6 (e : En) (he : EnOk e) (hp : e.params.length ≤ 12) : ∀ (k i : Nat) (Z : List AO), i + k = e.params.length → run tbl (.cl [.tmp 4]) [.blk 0, .seq (f6r13.seq .ret)] (.loop [2, 7] f6b12) [(2, .bptr 0 0), (7, .int .i64 i)] (.box 30 15 (encE e) :: Z) = some (.bool true, [])
  | 0, i, Z, h => by
    rw [run_loopD _ _ f6b12_eq]
    simp [show ¬ i < e.params.length by omega, c10]
  | k + 1, i, Z, h => by
    have hi : i < e.params.length := by omega
    have ih := fun Z => t6 e he hp k (i + 1) Z (by omega)
    simp only [Int.natCast_succ] at ih
    have w1 := wrap64 (49 + (i : Int)) (by omega) (by omega)
    have w2 := wrap8 (49 + (i : Int)) (by omega) (by omega)
    have w3 : (49 + (i : Int)).toNat = 49 + i := by omega
    have h11 := c11 e he [UInt8.ofNat (49 + i)] (by simp)
    have e8 : UInt8.ofNat (49 + i) = 49 + UInt8.ofNat i := by simp
    rw [run_loopD _ _ f6b12_eq]
    by_cases h9 : i < 9
    · rw [va_dig e i h9 hi, e8] at h11
      simp [hi, w1, w2, w3, h11, h9, show (i : Int) < 9 by omega, wrapS i (by omega), ih]
    · generalize vaV e [UInt8.ofNat (49 + i)] = X at h11
      rw [e8] at h11
      simp [hi, w1, w2, w3, h11, show ¬ (i : Int) < 9 by omega, wrapS i (by omega), ih]
theorem c6 (e : En) (h1 : I64 e.stat) (h2 : I64 e.pid) (h3 : I64 e.last) (n : List UInt8) : callW tbl 6 [encE e, .str n] = some (.bool true, []) := by
  have h9 := c9 e
  rw [call_run tbl (f := 6) (fn := f6) rfl _ rfl]
  cases hs : smE e
  · rw [hs] at h9
    simp [f6, f6body, h9, c10]
  · rw [hs] at h9
    have he := EnOk.of hs h1 h2 h3
    have hp : e.params.length ≤ 12 := by
      simp only [smE, Bool.and_eq_true, decide_eq_true_eq] at hs
      exact hs.1.1.1.2
    by_cases hn : n.length ≤ 60
    · have h11 := c11 e he n (by omega)
      have h13 := c13 n (by omega)
      have ht := t6 e he hp e.params.length 0 [] (by omega)
      simp at ht
      have hno := @va_no e n
      have hyes := @va_yes e n
      generalize vaV e n = X at h11 hno hyes
      obtain ⟨a, b⟩ := X
      cases b
      · obtain rfl : a = [] := hno rfl
        simp [f6, f6body, h9, show ¬ (60 : Int) < n.length by omega, h11, ht]
      · rw [hyes rfl] at h13
        simp [f6, f6body, h9, show ¬ (60 : Int) < n.length by omega, h11, h13, ht]
    · simp [f6, f6body, h9, show (60 : Int) < n.length by omega, c10]
/- ParamVariables -/
theorem va_vars (e : En) (l : List Vr) (n : List UInt8) (h1 : n ≠ [42]) (h2 : nmB n = false) : vaV { e with vars := l } n = vaV e n := by
  unfold vaV
  split
  · rename_i h0
    have hc : ¬ ((n.head?.getD 0).toNat : Int) = 42 := by
      match n, h0, h1 with
      | [c], h0, h1 =>
        intro hh
        apply h1
        simp at hh
        have : c = 42 := UInt8.toNat_inj.1 (by simpa using (by omega : c.toNat = 42))
        rw [this]
    unfold spV
    simp only [if_neg hc]
  · rw [h2]
    rfl
theorem c8 (e : En) (l : List Vr) (h1 : I64 e.stat) (h2 : I64 e.pid) (h3 : I64 e.last) (n : List UInt8) : callW tbl 8 [encE e, pV l, .str n] = some (.bool true, []) := by
  have h9 := c9 e
  have h9' := c9 { e with vars := l }
  rw [call_run tbl (f := 8) (fn := f8) rfl _ rfl]
  cases hs : smE e
  · rw [hs] at h9
    simp [f8, f8body, h9, c10]
  rw [hs] at h9
  cases hs' : smE { e with vars := l }
  · rw [hs'] at h9'
    simp [f8, f8body, h9, h9', c10]
  rw [hs'] at h9'
  have he := EnOk.of hs h1 h2 h3
  have he' := EnOk.of hs' h1 h2 h3
  by_cases hn : n.length ≤ 60
  · have h11 := c11 e he n (by omega)
    have h11' := c11 _ he' n (by omega)
    cases n with
    | nil => simp [f8, f8body, h9, h9', c10]
    | cons b r =>
      by_cases h42 : b :: r = [42]
      · have e1 : b = 42 := by simp at h42; exact h42.1
        have e2 : r = [] := by simp at h42; exact h42.2
        subst e1; subst e2
        simp [f8, f8body, h9, h9', c10]
      · have h43 : b = 42 → ¬ r = [] := by intro e1 e2; exact h42 (by rw [e1, e2])
        have h44 : ¬ (b = 42 ∧ r = []) := by rintro ⟨e1, e2⟩; exact h43 e1 e2
        by_cases h95 : (b.toNat : Int) = 95
        · simp [f8, f8body, h9, h9', eq_true h43, eq_false h44, h95, c10, show ¬ (60 : Int) < r.length + 1 by simp at hn; omega]
        · have key : okf b = false → run tbl (.cl f8.res) [] f8.body (bindArgs 0 [encE e, pV l, .str (b :: r)]) [] = some (.bool true, []) := by
            intro ho
            have hv := va_vars e l (b :: r) h42 (by simp [nmB, nmH, ho])
            rw [hv] at h11'
            generalize vaV e (b :: r) = X at h11 h11'
            simp [okf, ltB] at ho
            by_cases h97 : 97 ≤ b.toNat
            · simp [f8, f8body, h9, h9', h11, h11', eq_true h43, eq_false h44, h95, c10, show ¬ (60 : Int) < r.length + 1 by simp at hn; omega, show (97 : Int) ≤ b.toNat by omega, show ¬ (b.toNat : Int) ≤ 122 by omega, show (65 : Int) ≤ b.toNat by omega, show ¬ (b.toNat : Int) ≤ 90 by omega]
            · by_cases h65 : 65 ≤ b.toNat
              · simp [f8, f8body, h9, h9', h11, h11', eq_true h43, eq_false h44, h95, c10, show ¬ (60 : Int) < r.length + 1 by simp at hn; omega, show ¬ (97 : Int) ≤ b.toNat by omega, show (65 : Int) ≤ b.toNat by omega, show ¬ (b.toNat : Int) ≤ 90 by omega]
              · simp [f8, f8body, h9, h9', h11, h11', eq_true h43, eq_false h44, h95, c10, show ¬ (60 : Int) < r.length + 1 by simp at hn; omega, show ¬ (97 : Int) ≤ b.toNat by omega, show ¬ (65 : Int) ≤ b.toNat by omega]
          by_cases h97 : 97 ≤ b.toNat ∧ b.toNat ≤ 122
          · simp [f8, f8body, h9, h9', eq_true h43, eq_false h44, h95, c10, show ¬ (60 : Int) < r.length + 1 by simp at hn; omega, show (97 : Int) ≤ b.toNat by omega, show (b.toNat : Int) ≤ 122 by omega]
          · by_cases h65 : 65 ≤ b.toNat ∧ b.toNat ≤ 90
            · simp [f8, f8body, h9, h9', eq_true h43, eq_false h44, h95, c10, show ¬ (60 : Int) < r.length + 1 by simp at hn; omega, show ¬ (97 : Int) ≤ b.toNat by omega, show (65 : Int) ≤ b.toNat by omega, show (b.toNat : Int) ≤ 90 by omega]
            · exact key (by simp [okf, ltB]; omega)
  · simp [f8, f8body, h9, h9', show (60 : Int) < n.length by omega, c10]
/-- a list of variables, read -/
theorem vrs {c : AV} (h : HasTy (.sl true [.str, .str, .bool, .bool, .bool]) c) : ∃ l : List Vr, c = pV l ∧ l.length ≤ maxLen ∧ ∀ x ∈ l, True :=
  HasTy.structs h (fun cs hl hj => by
    have h0 := Tys.of _ cs hl hj
    obtain ⟨_, _, rfl, k0, h0⟩ := h0.cons_inv
    obtain ⟨_, _, rfl, k1, h0⟩ := h0.cons_inv
    obtain ⟨_, _, rfl, k2, h0⟩ := h0.cons_inv
    obtain ⟨_, _, rfl, k3, h0⟩ := h0.cons_inv
    obtain ⟨_, _, rfl, k4, h0⟩ := h0.cons_inv
    obtain rfl := h0.nil_inv
    obtain ⟨a, rfl, _⟩ := k0.str_inv
    obtain ⟨b, rfl, _⟩ := k1.str_inv
    obtain ⟨d, rfl⟩ := k2.bool_inv
    obtain ⟨d1, rfl⟩ := k3.bool_inv
    obtain ⟨d2, rfl⟩ := k4.bool_inv
    exact ⟨⟨a, b, d, d1, d2⟩, rfl, trivial⟩)
end Go.Proofs.YtmlmijmnekdkpaaDoor
