/- The law ProcGroups: its function. No condition. -/
import Derived.Test.YtgppkhbidcgnlaaDoorPe
namespace Go.Proofs.YtgppkhbidcgnlaaDoor
open Go.PI
set_option maxRecDepth 100000
set_option maxHeartbeats 8000000
set_option linter.unusedSimpArgs false
theorem r_toX (l : List Pr) : (l.map toX).map (·.r) = l := by simp [List.map_map, Function.comp_def, toX]
theorem cl_toX (l : List Pr) : (l.map toX).map clX = l.map toX := by simp [List.map_map, Function.comp_def, toX, clX]
theorem up_toX {l : List Pr} (h : OkP l) : Up (l.map toX) := by
  show ((l.map toX).map (·.r)).Pairwise _
  rw [r_toX]; exact h.asc
theorem bnd_toX {l : List Pr} (h : smL l l.length 0 = true) : BndL (l.map toX) := by
  obtain ⟨h1, h2⟩ := small_bnd h
  refine ⟨by simp; omega, fun x hx => ?_⟩
  obtain ⟨r, hr, rfl⟩ := List.mem_map.1 hx
  have := h2 r hr
  simp only [BndX, toX]
  omega
theorem fields_of {l : List Pr} (h : OkP l) : ∀ r ∈ l, fieldB r = true := by
  intro r hr
  obtain ⟨j, hj, rfl⟩ := List.getElem_of_mem hr
  have := (oneR_zero (h.all j hj).1).1
  rwa [atP_eq hj] at this
theorem pid_toX {l : List Pr} (h : OkP l) : ∀ x ∈ l.map toX, 1 ≤ x.r.pid ∧ x.r.pid ≤ 2147483647 := by
  intro x hx
  obtain ⟨r, hr, rfl⟩ := List.mem_map.1 hx
  have := fields_of h r hr
  simp [fieldB, numB] at this
  simp only [toX]
  omega
theorem upd_mem {l : List Px} {i : Int} {f : Px → Px} {P : Px → Prop} (h : ∀ x ∈ l, P x) (hf : ∀ x, P x → P (f x)) : ∀ x ∈ upd l i f, P x := by
  intro x hx
  unfold upd at hx
  split at hx
  · rename_i y hy
    rcases List.mem_or_eq_of_mem_set hx with h1 | h1
    · exact h x h1
    · subst h1; exact hf y (h y (List.mem_of_getElem? hy))
  · exact h x hx
theorem bnd_upd {l : List Px} (h : BndL l) (i : Int) {f : Px → Px} (hf : ∀ x, BndX x → BndX (f x)) : BndL (upd l i f) := ⟨by rw [upd_len]; exact h.1, upd_mem h.2 hf⟩
theorem bnd_ses {l R : List Px} {n e : Int} (h : BndL l) (hs : sesR l n = (some R, e)) : BndL R := by
  unfold sesR at hs
  split at hs
  · cases hs
  · split at hs
    · cases hs
    · cases hs; exact bnd_upd h _ fun x hx => hx
theorem bnd_grp {l R : List Px} {n w g e : Int} (h : BndL l) (hs : grp l l n w g = (some R, e)) : BndL R := by
  unfold grp at hs
  split at hs
  · cases hs
  · split at hs
    · cases hs
    · generalize (if g = 0 then w else g) = g' at hs
      unfold grpT at hs
      split at hs
      · cases hs
      · split at hs
        · cases hs
        · split at hs
          · cases hs
          · cases hs; exact bnd_upd h _ fun x hx => hx
theorem c5 (l : List Pr) (n w g : Int) : callW tbl 5 [pl l, .int .i64 n, .int .i64 w, .int .i64 g] = some (.bool true, []) := by
  rw [call_run tbl (f := 5) (fn := f5) rfl _ rfl]
  have h20 := c20' l
  cases hs : smL l l.length 0 && decide (vR l = 0)
  · rw [hs] at h20
    simp [f5, f5body, h20, c11]
  · rw [hs] at h20
    simp only [Bool.and_eq_true, decide_eq_true_eq] at hs
    have ok := ok_of_vR hs.2
    have hb := bnd_toX hs.1
    have hu := up_toX ok
    have h23 := c23x hb (pid_toX ok) n w g
    have h24 := c24x hb.len hu n w g
    have h25 := c25x hb n
    have h26 := c26x hb.len hu n
    rw [pl_eq] at h20 ⊢
    rw [show sesP (l.map toX) n = sesR (l.map toX) n by unfold sesP sesR; rw [cl_toX]] at h25
    rw [cl_toX] at h23
    have b1 := fun R e => bnd_ses (R := R) (n := n) (e := e) hb
    have b2 := fun R e => bnd_grp (R := R) (n := n) (w := w0 n w) (g := g) (e := e) hb
    generalize sesR (l.map toX) n = S at h25 h26 b1
    generalize grp (l.map toX) (l.map toX) n (w0 n w) g = G at h23 h24 b2
    generalize l.map toX = L at *
    obtain ⟨S1, S2⟩ := S
    obtain ⟨G1, G2⟩ := G
    have hL := c17x (a := L) (b := L) rfl hb
    cases S1 with
    | none =>
      cases G1 with
      | none => simp [f5, f5body, h20, h23, h24, h25, h26, hL, c11]
      | some R2 =>
        have hR2 := c17x (a := R2) (b := R2) rfl (b2 _ _ rfl)
        simp [f5, f5body, h20, h23, h24, h25, h26, hL, hR2, c11]
    | some R1 =>
      have hR1 := c17x (a := R1) (b := R1) rfl (b1 _ _ rfl)
      cases G1 with
      | none => simp [f5, f5body, h20, h23, h24, h25, h26, hL, hR1, c11]
      | some R2 =>
        have hR2 := c17x (a := R2) (b := R2) rfl (b2 _ _ rfl)
        simp [f5, f5body, h20, h23, h24, h25, h26, hL, hR1, hR2, c11]
end Go.Proofs.YtgppkhbidcgnlaaDoor
