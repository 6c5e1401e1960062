/- SignalStays: the operations keep a state valid; the law's function. No condition. -/
import Derived.Test.YtlkfejigeeddaaaDoorVal
namespace Go.Proofs.YtlkfejigeeddaaaDoor
open Go.PI
set_option maxRecDepth 100000
set_option maxHeartbeats 8000000
set_option linter.unusedSimpArgs false
theorem OkS.sub {p q i c : List Int} (h : OkS p i c) (hq : Asc q) (hs : ∀ m ∈ q, m ∈ p) : OkS q i c :=
  ⟨hq, h.ai, h.ac, h.fi, h.fc, h.ic, fun n hn => h.pi n (hs n hn), fun h18 n hn => h.ps (hs 18 h18) n (hs n hn)⟩
theorem OkS.wo {p i c : List Int} (h : OkS p i c) (n : Int) : OkS (wo p n) i c := h.sub (h.ap.filter _) (fun _ hm => (mem_wo.1 hm).1)
theorem OkS.sp1 {p i c : List Int} (h : OkS p i c) (n : Int) : OkS (sp1 p n) i c := h.sub (asc_sp1 h.ap n) (fun _ hm => Classical.byContradiction fun hn => not_mem_sp1 hn n hm)
theorem OkS.snd {p i c : List Int} (h : OkS p i c) {n : Int} (hk : kn n = true) : OkS (sndP p i n) i c := by
  unfold sndP
  have h1 := h.sp1 n
  by_cases hc : n = 18 ∨ n ∉ i
  · rw [if_pos hc]
    refine ⟨asc_insS hk h1.ap, h.ai, h.ac, h.fi, h.fc, h.ic, fun m hm h18 => ?_, fun h18 m hm => ?_⟩
    · rcases mem_insS.1 hm with rfl | hm
      · exact hc.resolve_left h18
      · exact h1.pi m hm h18
    · by_cases n18 : n = 18
      · rcases mem_insS.1 hm with rfl | hm
        · subst n18; decide
        · unfold Go.Proofs.YtlkfejigeeddaaaDoor.sp1 at hm
          rw [if_pos n18] at hm
          simpa using (List.mem_filter.1 hm).2
      · have a18 : 18 ∈ Go.Proofs.YtlkfejigeeddaaaDoor.sp1 p n := (mem_insS.1 h18).resolve_left (fun e => n18 e.symm)
        rcases mem_insS.1 hm with rfl | hm
        · cases hs : stp' m
          · rfl
          · unfold Go.Proofs.YtlkfejigeeddaaaDoor.sp1 at a18
            rw [if_neg n18, if_pos hs] at a18
            exact absurd rfl (mem_wo.1 a18).2
        · exact h1.ps a18 m hm
  · rw [if_neg hc]
    exact h1
theorem OkS.set {p i c : List Int} (h : OkS p i c) {n how : Int} (hm : mayS n how) : OkS (setP p n how) (setI i n how) (setC c n how) := by
  obtain ⟨hk, hf, h0, h2⟩ := hm
  obtain ⟨n9, n19⟩ := (fx_iff n).1 hf
  have mp : ∀ m, m ∈ setP p n how → m ∈ p ∧ (how = 1 → m ≠ 18 → m ≠ n) := by
    intro m hm
    unfold setP at hm
    split at hm
    · exact ⟨(mem_wo.1 hm).1, fun _ _ => (mem_wo.1 hm).2⟩
    · rename_i hh
      refine ⟨hm, fun e m18 e2 => hh ⟨e, fun e3 => m18 (e2.trans e3)⟩⟩
  have mi : ∀ m, m ∈ setI i n how → (m = n ∧ how = 1) ∨ (m ∈ i ∧ m ≠ n) := by
    intro m hm
    unfold setI at hm
    split at hm
    · rename_i e
      exact (mem_insS.1 hm).elim (fun x => .inl ⟨x, e⟩) (fun x => .inr (mem_wo.1 x))
    · exact .inr (mem_wo.1 hm)
  have mc : ∀ m, m ∈ setC c n how → (m = n ∧ how = 2) ∨ (m ∈ c ∧ m ≠ n) := by
    intro m hm
    unfold setC at hm
    split at hm
    · rename_i e
      exact (mem_insS.1 hm).elim (fun x => .inl ⟨x, e⟩) (fun x => .inr (mem_wo.1 x))
    · exact .inr (mem_wo.1 hm)
  have ap : Asc (setP p n how) := by unfold setP; split; exact h.ap.filter _; exact h.ap
  have ai : Asc (setI i n how) := by unfold setI; split; exact asc_insS hk (h.ai.filter _); exact h.ai.filter _
  have ac : Asc (setC c n how) := by unfold setC; split; exact asc_insS hk (h.ac.filter _); exact h.ac.filter _
  refine ⟨ap, ai, ac, ⟨fun hm => ?_, fun hm => ?_⟩, ⟨fun hm => ?_, fun hm => ?_⟩, fun m hm hm' => ?_, fun m hm m18 hm' => ?_, fun h18 m hm => h.ps (mp 18 h18).1 m (mp m hm).1⟩
  · rcases mi _ hm with e | e
    · exact n9 e.1.symm
    · exact h.fi.1 e.1
  · rcases mi _ hm with e | e
    · exact n19 e.1.symm
    · exact h.fi.2 e.1
  · rcases mc _ hm with e | e
    · exact n9 e.1.symm
    · exact h.fc.1 e.1
  · rcases mc _ hm with e | e
    · exact n19 e.1.symm
    · exact h.fc.2 e.1
  · rcases mi _ hm with e | e
    · rcases mc _ hm' with e' | e'
      · omega
      · exact e'.2 e.1
    · rcases mc _ hm' with e' | e'
      · exact e.2 e'.1
      · exact h.ic m e.1 e'.1
  · rcases mi _ hm' with e | e
    · exact (mp m hm).2 e.2 m18 e.1
    · exact h.pi m (mp m hm).1 m18 e.1
theorem OkS.fork {p i c : List Int} (h : OkS p i c) : OkS [] i c := h.sub ⟨by simp, by simp⟩ (by simp)
theorem OkS.exec {p i c : List Int} (h : OkS p i c) : OkS p i [] := ⟨h.ap, h.ai, ⟨by simp, by simp⟩, h.fi, by simp, by simp, h.pi, h.ps⟩
/- play -/
inductive Plays (a b d : AV) : Option (AV × List AO) → Prop
  | same : Plays a b d (some (.agg [a, b, d], []))
  | all {p i c : List Int} (h : OkS p i c) : Plays a b d (outS p i c)
  | fork {i c : List Int} (h : OkS [] i c) : Plays a b d (some (.agg [.e0, .ref 0 0 0 i.length, .ref 1 0 0 c.length], [.row 3 1 0 (im i), .row 3 1 0 (im c)]))
  | exec {p i : List Int} (h : OkS p i []) : Plays a b d (some (.agg [.ref 0 0 0 p.length, .ref 1 0 0 i.length, .e0], [.row 3 1 0 (im p), .row 3 1 0 (im i)]))
theorem c32 {a b d : AV} {p i c : List Int} (ok : OkS p i c) (ha : IsL a p) (hb : IsL b i) (hd : IsL d c) (kd n how : Int) : Plays a b d (callW tbl 32 [.agg [a, b, d], .agg [.int .i64 kd, .int .i64 n, .int .i64 how]]) := by
  rw [call_run tbl (f := 32) (fn := f32) rfl _ rfl]
  have lp := ok.ap.length
  have li := ok.ai.length
  have lc := ok.ac.length
  by_cases k0 : kd = 0
  · have h22 := c22 (show p.length ≤ 1000 by omega) (show i.length ≤ 1000 by omega) (show c.length ≤ 1000 by omega) ha hb hd n
    subst k0
    by_cases hk : kn n = true
    · rw [if_pos hk] at h22
      have ok' := ok.snd hk
      generalize sndP p i n = q at h22 ok'
      have e := Plays.all (a := a) (b := b) (d := d) ok'
      cases ha <;> cases hb <;> cases hd <;> (try simp at h22) <;> simp [f32, f32body, h22] <;> exact e
    · rw [if_neg hk] at h22
      have e := Plays.same (a := a) (b := b) (d := d)
      cases ha <;> cases hb <;> cases hd <;> (try simp at h22) <;> simp [f32, f32body, h22] <;> exact e
  · by_cases k1 : kd = 1
    · subst k1
      by_cases hp : p = []
      · subst hp
        have h19 := c19e hb hd ha
        have e := Plays.same (a := a) (b := b) (d := d)
        generalize hl : ([] : List Int) = l at ha
        cases ha <;> cases hb <;> cases hd <;> (try subst hl) <;> (try simp at h19) <;> simp [f32, f32body, h19] <;> exact e
      · cases ha with
        | e0 => exact absurd rfl hp
        | il =>
          have h19 := c19 ok.ap hp (show i.length ≤ 1000 by omega) (show c.length ≤ 1000 by omega) hb hd
          have ok' := ok.wo (nx p)
          generalize wo p (nx p) = q at h19 ok'
          generalize eff c (nx p) = ef at h19
          generalize nx p = m at h19
          have e := Plays.all (a := il p) (b := b) (d := d) ok'
          cases hb <;> cases hd <;> (try simp at h19) <;> simp [f32, f32body, h19] <;> exact e
    · by_cases k2 : kd = 2
      · subst k2
        have h25 := c25 (show p.length ≤ 1000 by omega) (show i.length ≤ 1000 by omega) (show c.length ≤ 1000 by omega) ha hb hd n how
        by_cases hm : mayS n how
        · rw [if_pos hm] at h25
          have ok' := ok.set hm
          generalize setP p n how = q1 at h25 ok'
          generalize setI i n how = q2 at h25 ok'
          generalize setC c n how = q3 at h25 ok'
          have e := Plays.all (a := a) (b := b) (d := d) ok'
          cases ha <;> cases hb <;> cases hd <;> (try simp at h25) <;> simp [f32, f32body, h25] <;> exact e
        · rw [if_neg hm] at h25
          have e := Plays.same (a := a) (b := b) (d := d)
          cases ha <;> cases hb <;> cases hd <;> (try simp at h25) <;> simp [f32, f32body, h25] <;> exact e
      · by_cases k3 : kd = 3
        · subst k3
          have h28 := c28 (show p.length ≤ 1000 by omega) (show i.length ≤ 1000 by omega) (show c.length ≤ 1000 by omega) ha hb hd
          have e := Plays.fork (a := a) (b := b) (d := d) ok.fork
          cases ha <;> cases hb <;> cases hd <;> (try simp at h28) <;> simp [f32, f32body, h28] <;> exact e
        · have h30 := c30 (show p.length ≤ 1000 by omega) (show i.length ≤ 1000 by omega) (show c.length ≤ 1000 by omega) ha hb hd
          have e := Plays.exec (a := a) (b := b) (d := d) ok.exec
          cases ha <;> cases hb <;> cases hd <;> (try simp at h30) <;> simp [f32, f32body, k0, k1, k2, k3, h30] <;> exact e
end Go.Proofs.YtlkfejigeeddaaaDoor
