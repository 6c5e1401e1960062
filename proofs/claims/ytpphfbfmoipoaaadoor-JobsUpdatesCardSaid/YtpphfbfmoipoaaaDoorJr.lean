/- Jobs: the law JobsUpdates. No condition. -/
import Derived.Test.YtpphfbfmoipoaaaDoorJn
import Derived.Test.YtpphfbfmoipoaaaDoorJq
namespace Go.Proofs.YtpphfbfmoipoaaaDoor
open Go.PI
set_option maxRecDepth 100000
set_option maxHeartbeats 8000000
set_option linter.unusedSimpArgs false
theorem chg_bj {p w : Int} {j : Jb} (h : BJ j) (hl : j.stats.length = j.pids.length) : BJ (chgU p w j) := by
  unfold chgU
  split
  · exact ⟨h.1, by show (rsU p w j.pids j.stats).length ≤ _; rw [rsU_len p w _ _ hl]; exact h.1⟩
  · exact h
theorem outF_bj {p w : Int} : ∀ (l : List Jb), (∀ j ∈ l, BJ j) → (∀ j ∈ l, j.stats.length = j.pids.length) → ∀ x ∈ outF p w l ++ mvF p w l, BJ x
  | [], _, _, x, hx => by simp [outF, mvF] at hx
  | j :: r, h, hs, x, hx => by
    have ih := outF_bj (p := p) (w := w) r (fun y hy => h y (by simp [hy])) (fun y hy => hs y (by simp [hy])) x
    have hj := chg_bj (p := p) (w := w) (h j (by simp)) (hs j (by simp))
    simp only [outF, mvF] at hx
    split at hx
    · rcases List.mem_append.1 hx with hx | hx
      · exact ih (List.mem_append.2 (.inl hx))
      · rcases List.mem_cons.1 hx with rfl | hx
        · exact hj
        · exact ih (List.mem_append.2 (.inr hx))
    · rcases List.mem_append.1 hx with hx | hx
      · rcases List.mem_cons.1 hx with rfl | hx
        · exact hj
        · exact ih (List.mem_append.2 (.inl hx))
      · exact ih (List.mem_append.2 (.inr hx))
theorem Good.sj {j : Jb} (g : Good j) : SJ j := by
  have := numB_iff.1 g.g
  have h1 := g.n1
  have h2 := g.n2
  have h3 := g.tx
  exact ⟨by omega, by omega, by omega, by omega, by omega⟩
theorem c6 (l : List Jb) (p w : Int) (hwm : w ≤ mx) : callW tbl 6 [jl l, .int .i64 p, .int .i64 w] = some (.bool true, []) := by
  rw [call_run tbl (f := 6) (fn := f6) rfl _ rfl]
  have e9 := c9 l
  cases hs : smL l 40 0 0
  · rw [hs] at e9
    simp at e9
    simp [f6, f6body, e9, c10]
  by_cases hv : vld l = 0
  · have ho := (ok_iff l).1 hv
    obtain ⟨h1, h2⟩ := small_bj hs
    rw [hs] at e9
    simp [hv] at e9
    have hls : ∀ j ∈ l, j.stats.length = j.pids.length := fun j hj => (ho.good hj).ls
    have hwj : ∀ j ∈ l, WJ j := fun j hj => (ho.good hj).wj
    have hsj : ∀ j ∈ l, SJ j := fun j hj => (ho.good hj).sj
    have e21 := c21 l p w (okU_iff.2 ⟨h1, hwm, fun j hj => ⟨h2 j hj, hwj j hj⟩⟩)
    have e22 := c22 l h1 h2 hls p w
    rw [upd_ref ho p w] at e21
    have e23 := c23 l h1 h2 hwj hsj
    have e24 := c24 l h1 h2 hsj
    have n1 := nJ_le l
    have n2 := nT_le l l.length 0
    have e13n := c13 (nJ l) (by omega) (nJ_bj h2)
    have e25 := c25 (nT l l.length 0) (by omega)
    generalize nJ l = J at e23 e24 e13n n1
    generalize nT l l.length 0 = B at e23 e24 e25 n2
    have tJ : (J.map encJ).take J.length = J.map encJ := List.take_of_length_le (by simp)
    have tB : (B.map AV.str).take B.length = B.map AV.str := List.take_of_length_le (by simp)
    simp only [outN] at e23 e24
    have hR : ∀ r, outR l p w = some r → r.length ≤ 1000000 ∧ ∀ x ∈ r, BJ x := by
      intro r hr
      unfold outR at hr
      split at hr
      · cases hr
      · injection hr with hr
        subst hr
        refine ⟨?_, outF_bj l h2 hls⟩
        rw [List.length_append, ← outF_len]; exact h1
    cases hr : outR l p w with
    | none =>
      rw [hr] at e21 e22
      simp only [outU] at e21 e22
      have e13 := c13 l h1 h2
      simp [f6, f6body, e9, c10, e21, e22, e23, e24, tJ, tB, e13, e13n, e25]
    | some r =>
      obtain ⟨r1, r2⟩ := hR r hr
      rw [hr] at e21 e22
      simp only [outU] at e21 e22
      have e13 := c13 r r1 r2
      have tR : (r.map encJ).take r.length = r.map encJ := List.take_of_length_le (by simp)
      simp [f6, f6body, e9, c10, e21, e22, e23, e24, tJ, tB, tR, e13, e13n, e25]
  · rw [hs] at e9
    simp [hv] at e9
    simp [f6, f6body, e9, c10]
end Go.Proofs.YtpphfbfmoipoaaaDoor
