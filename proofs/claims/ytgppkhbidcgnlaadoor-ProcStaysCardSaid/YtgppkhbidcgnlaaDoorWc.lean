/- The law ProcWaits: its function. No condition. -/
import Derived.Test.YtgppkhbidcgnlaaDoorWb
namespace Go.Proofs.YtgppkhbidcgnlaaDoor
open Go.PI
set_option maxRecDepth 100000
set_option maxHeartbeats 8000000
set_option linter.unusedSimpArgs false
theorem c22x {l : List Px} (hl : l.length ≤ 1000000) (hu : Up l) (n w f : Int) : callW tbl 22 [pX l, .int .i64 n, .int .i64 w, .int .i64 f] = oc5 l (waS l l n w f) := by
  rw [call_run tbl (f := 22) (fn := f22) rfl _ rfl]
  unfold waS
  have h56 := c56x hl hu n
  rcases ix_live (l := l) (n := n) with ⟨i1, _⟩ | ⟨k, hk, i1, _, _⟩
  · rw [i1] at h56 ⊢
    rw [if_pos (by omega)]
    simp [f22, f22body, h56, oc5]
  · rw [i1] at h56 ⊢
    rw [if_neg (by omega)]
    have ht := t22x hl n w f l.length 0 false [.row 30 13 0 []] (by omega)
    generalize oc5 l (waF l l n w f false 0) = R at ht ⊢
    simp at ht
    simp [f22, f22body, h56, ht, show ¬ (k : Int) < 0 by omega]
theorem bnd_wa {l R : List Px} {n w f : Int} (h : BndL l) (hs : (waS l l n w f).l = some R) : BndL R := by
  unfold waS at hs
  split at hs
  · cases hs
  · unfold waF at hs
    split at hs
    · unfold waE at hs
      split at hs <;> cases hs
    · simp only [Option.some.injEq] at hs
      subst hs
      unfold waL
      split
      · refine ⟨Nat.le_trans (List.length_eraseIdx_le ..) h.1, fun x hx => h.2 x (List.mem_of_mem_eraseIdx hx)⟩
      · exact bnd_upd h _ fun x hx => hx
theorem c4 (l : List Pr) (n w f : Int) : callW tbl 4 [pl l, .int .i64 n, .int .i64 w, .int .i64 f] = some (.bool true, []) := by
  rw [call_run tbl (f := 4) (fn := f4) rfl _ rfl]
  have h20 := c20' l
  cases hs : smL l l.length 0 && decide (vR l = 0)
  · rw [hs] at h20
    simp [f4, f4body, h20, c11]
  · rw [hs] at h20
    simp only [Bool.and_eq_true, decide_eq_true_eq] at hs
    have ok := ok_of_vR hs.2
    have hb := bnd_toX hs.1
    have hu := up_toX ok
    have h21 := c21x hb hu n w f
    have h22 := c22x hb.len hu n w f
    rw [pl_eq] at h20 ⊢
    rw [cl_toX] at h21
    have b1 := fun R => bnd_wa (R := R) (n := n) (w := w) (f := f) hb
    generalize waS (l.map toX) (l.map toX) n w f = S at h21 h22 b1
    generalize l.map toX = L at *
    obtain ⟨S1, p, s, i, e⟩ := S
    have hL := c17x (a := L) (b := L) rfl hb
    cases S1 with
    | none =>
      simp only [oc5] at h21 h22
      simp [f4, f4body, h20, h21, h22, hL, c11]
    | some R1 =>
      have hR1 := c17x (a := R1) (b := R1) rfl (b1 _ rfl)
      simp only [oc5] at h21 h22
      simp [f4, f4body, h20, h21, h22, hR1, c11]
end Go.Proofs.YtgppkhbidcgnlaaDoor
