/- A region that draws its order: whatever order the edges allow, it ends as in the order of its text. No condition. -/
import Derived.Test.YtedaefjmclkifaaPi16
namespace Go.PI
open Go.RowKit

section
variable {P : Program} {B N : Nat} {φ : Nat → List AV → Option (AV × List AO)} {is : List IOper} {E : Nat → Env} {Hh : Nat → List AO} {D : Nat → AV} {bb : Nat → Bool}

theorem EV_congr {e : Env} {S S' : Nat → Bool} : ∀ k, (∀ i, i < k → S i = S' i) → EV is e D S k = EV is e D S' k
  | 0, _ => rfl
  | k + 1, h => by
    simp only [EV]
    rw [h k (by omega), EV_congr k (fun i hi => h i (by omega))]

theorem mm_congr {S S' : Nat → Bool} : ∀ k, (∀ i, i < k → (S i && loudAt is i) = (S' i && loudAt is i)) → mm is S k = mm is S' k
  | 0, _ => rfl
  | k + 1, h => by
    simp only [mm]
    rw [h k (by omega), mm_congr k (fun i hi => h i (by omega))]

theorem EV_false {e : Env} : ∀ k, EV is e D (fun _ => false) k = e
  | 0 => rfl
  | k + 1 => by simp only [EV, Bool.false_eq_true, if_false]; exact EV_false k
theorem mm_false : ∀ k, mm is (fun _ => false) k = 0
  | 0 => rfl
  | k + 1 => by simp only [mm, Bool.false_and, Bool.false_eq_true, if_false]; exact mm_false k

theorem Sim.congr {F : Nat → Prop} {H : List AO} {ρ : List Value} {e e' : Env} {a : Act} {w : World} (h : Sim B F H ρ N e a w) (he : ∀ t, e'.get t = e.get t) : Sim B F H ρ N e' a w :=
  ⟨h.hp, h.defers, h.size, fun i => by rw [he i]; exact h.env i⟩

theorem After.congr {F F' : Nat → Prop} {H H' : List AO} {ρ ρ' : List Value} {w w' : World} {e e' : Env} {a' : Act} (h : After B F H ρ w N e H' a' w' ρ' F') (he : ∀ t, e'.get t = e.get t) : After B F H ρ w N e' H' a' w' ρ' F' :=
  ⟨h.sim.congr he, h.ev, h.kept, h.sub, h.bnd⟩

set_option maxHeartbeats 1000000 in
theorem draw_sound (hφ : PhiOk P φ) {ops : Array Oper} (hc : cOpers P N ops ops.toList = some is) (hd : drawOk ops.toList is = true) {e e' : Env} {H H' : List AO} (hr : runOps φ is e H = some (e', H')) {Q : Exit → Act → World → Prop} {a0 : Act} {w0 : World} {ρ0 : List Value} {F0 : Nat → Prop}
    (hs : Sim B F0 H ρ0 N e a0 w0) (hQ : ∀ a' w' ρ' F', After B F0 H ρ0 w0 N e' H' a' w' ρ' F' → Q .normal a' w') : wpAny P .any ops Q ops.size (Array.replicate ops.size false) a0 w0 := by
  obtain ⟨E, Hh, D, bb, hrun, e0, h0, en, hn⟩ := run_of is e H e' H' hr
  obtain ⟨hlen, hat⟩ := cOpers_at ops.toList is hc
  have hlen' : is.length = ops.size := by simpa using hlen
  have hdf := drawFacts hd
  have hconst : ∀ o ∈ is, constOk o = true := by
    unfold drawOk at hd
    simp only [Bool.and_eq_true, List.all_eq_true] at hd
    exact hd.1.1
  have key : ∀ (fuel : Nat) (listed : Array Bool) (a : Act) (w : World) (ρ : List Value) (F : Nat → Prop), listed.size = ops.size → ((List.range ops.size).filter fun i => !listed.getD i true).length ≤ fuel →
      Closed ops.toList (fun i => listed.getD i false) → After B F0 H ρ0 w0 N (EV is e D (fun i => listed.getD i false) is.length) (Hh (mm is (fun i => listed.getD i false) is.length)) a w ρ F →
      wpAny P .any ops Q fuel listed a w := by
    have done : ∀ (listed : Array Bool) (a : Act) (w : World) (ρ : List Value) (F : Nat → Prop), (∀ i, i < ops.size → listed.getD i false = true) →
        After B F0 H ρ0 w0 N (EV is e D (fun i => listed.getD i false) is.length) (Hh (mm is (fun i => listed.getD i false) is.length)) a w ρ F → Q .normal a w := by
      intro listed a w ρ F hall haft
      have e1 : EV is e D (fun i => listed.getD i false) is.length = e' := by
        rw [EV_congr (S' := fun i => decide (i < is.length)) is.length (fun i hi => by have h9 := hall i (by omega); simp only [hi, decide_true]; exact h9), ← e0, EV_text hrun is.length is.length (Nat.le_refl _), Nat.min_self, en]
      have e2 : Hh (mm is (fun i => listed.getD i false) is.length) = H' := by
        have hle := mm_le (is := is) (S := fun i => listed.getD i false) is.length
        have := quiet_range hrun (is.length - mm is (fun i => listed.getD i false) is.length) (mm is (fun i => listed.getD i false) is.length) (by omega) (fun i h1 h2 => by
          cases hl : loudAt is i with
          | false => rfl
          | true =>
            have := mm_ge (is := is) (S := fun i => listed.getD i false) (hall i (by omega)) hl is.length (by omega)
            omega)
        rw [show mm is (fun i => listed.getD i false) is.length + (is.length - mm is (fun i => listed.getD i false) is.length) = is.length by omega, hn] at this
        exact this.symm
      rw [e1, e2] at haft
      exact hQ a w ρ F haft
    intro fuel
    induction fuel with
    | zero =>
      intro listed a w ρ F hsz hcnt hcl haft
      have hnil : ((List.range ops.size).filter fun i => !listed.getD i true) = [] := List.eq_nil_of_length_eq_zero (by omega)
      have hall : ∀ i, i < ops.size → listed.getD i true = true := by
        intro i hi
        have := List.filter_eq_nil_iff.1 hnil i (List.mem_range.2 hi)
        simpa using this
      refine ⟨?_, done listed a w ρ F (fun i hi => ?_) haft⟩
      · apply List.eq_nil_iff_forall_not_mem.2
        intro i hi
        obtain ⟨h1, o, ho, _⟩ := mem_ready.1 hi
        have hlt : i < ops.size := (Array.getElem?_eq_some_iff.1 ho).1
        rw [hall i hlt] at h1; cases h1
      · have := hall i hi
        have hi' : i < listed.size := by omega
        simpa [Array.getD_eq_getD_getElem?, hi'] using this
    | succ fuel ih =>
      intro listed a w ρ F hsz hcnt hcl haft
      refine ⟨fun hnil => done listed a w ρ F ?_ haft, fun j hj => ?_⟩
      · intro i
        induction i using Nat.strongRecOn with
        | _ i ihi =>
          intro hi
          have hi' : i < listed.size := by omega
          cases hli : listed.getD i false with
          | true => rfl
          | false =>
            exfalso
            have hmem : i ∈ Region.ready .any ops listed := by
              refine mem_ready.2 ⟨?_, ops[i], by simp [hi], fun ed hed hb => ?_⟩
              · simpa [Array.getD_eq_getD_getElem?, hi'] using hli
              · have := hdf.back i ops[i] ed (by simp [hi]) (by simpa using hed) hb
                exact ihi ed.on this (by omega)
            rw [hnil] at hmem; cases hmem
      · -- operation j comes up
        obtain ⟨hjl, o, ho, hedges⟩ := mem_ready.1 hj
        have hjlt : j < ops.size := (Array.getElem?_eq_some_iff.1 ho).1
        have hjlt' : j < listed.size := by omega
        have hol : ops.toList[j]? = some o := by simpa using ho
        obtain ⟨io, hio, hcio⟩ := hat j o hol
        obtain ⟨hop, hdst, hdN⟩ := cOper_spec hcio
        obtain ⟨hwant, hyes, hno, hE⟩ := hrun.step j io hio
        let S : Nat → Bool := fun i => listed.getD i false
        have hSj : S j = false := by
          show listed.getD j false = false
          simpa [Array.getD_eq_getD_getElem?, hjlt'] using hjl
        have hbef : ∀ i, ((befs ops.toList []).getD j 0).testBit i = true → S i = true := by
          intro i hbit
          obtain ⟨ed, hm, hb, hh⟩ := befs_bit hol hbit
          have hl := hedges ed (by simpa using hm) hb
          rcases hh with rfl | hh
          · exact hl
          · exact hcl ed.on i hl hh
        have hafter : ∀ i, ((befs ops.toList []).getD i 0).testBit j = true → S i = false := by
          intro i hbit
          cases hSi : S i with
          | false => rfl
          | true => have h9 : S j = true := hcl i j hSi hbit; rw [hSj] at h9; cases h9
        have getio : ∀ (i : Nat) (hi : i < is.length), is[i]? = some (is[i]'hi) := fun i hi => List.getElem?_eq_getElem hi
        -- the frame, at the slots that are used
        have henv : ∀ t ∈ useO io, (EV is e D S is.length).get t = (E j).get t := by
          intro t ht
          have h1 := EV_agree (is := is) (D := D) (e := e) (S := S) (S' := fun i => decide (i < j)) (t := t) is.length (fun i hi hdi => by
            have hii := getio i hi
            have hdi' : is[i].dst = some t := by simpa [dstAt, hii] using hdi
            rcases Nat.lt_trichotomy i j with hij | hij | hij
            · simp only [hij, decide_true]
              exact hbef i (hdf.conf i j _ _ hij hii hio (by simp [confI, hdi', ht]))
            · subst hij; simp [hSj]
            · have : decide (i < j) = false := by simp; omega
              rw [this]
              exact hafter i (hdf.conf j i _ _ hij hio hii (by simp [confI, hdi', ht])))
          rw [h1, ← e0, EV_text hrun j is.length (Nat.le_refl _), Nat.min_eq_right (by omega)]
        have hwant' : wantedA (EV is e D S is.length) io.guard = some (bb j) := by
          rw [← hwant]
          cases hg : io.guard with
          | none => rfl
          | some q =>
            obtain ⟨sl, wt⟩ := q
            simp only [wantedA]
            rw [henv sl (by simp [useO, hg, gTmps])]
        have hw := wanted_ok haft.sim hcio hwant'
        -- the loud ones come in order
        have hloud : loudAt is j = loudI io.op := by simp [loudAt, hio]
        have loudS : ∀ i, i < is.length → loudAt is i = true → loudI io.op = true → (i < j → S i = true) ∧ (j < i → S i = false) := by
          intro i hi hl1 hl2
          have hii := getio i hi
          have hl1' : loudI is[i].op = true := by simpa [loudAt, hii] using hl1
          refine ⟨fun hij => hbef i (hdf.conf i j _ _ hij hii hio (by simp [confI, hl1', hl2])), fun hij => hafter i (hdf.conf j i _ _ hij hio hii (by simp [confI, hl1', hl2]))⟩
        have hloudH : loudI io.op = true → Hh (mm is S is.length) = Hh j := by
          intro hl
          have hmle : mm is S is.length ≤ j := by
            rcases mm_at (is := is) (S := S) is.length with h | ⟨i0, h1, h2, h3, h4⟩
            · omega
            · rcases Nat.lt_trichotomy i0 j with hh | hh | hh
              · omega
              · subst hh; rw [hSj] at h3; cases h3
              · have := (loudS i0 h1 h4 hl).2 hh; rw [this] at h3; cases h3
          have := quiet_range hrun (j - mm is S is.length) (mm is S is.length) (by omega) (fun i h1 h2 => by
            cases hli : loudAt is i with
            | false => rfl
            | true =>
              have h3 := (loudS i (by omega) hli hl).1 (by omega)
              have := mm_ge (is := is) h3 hli is.length (by omega)
              omega)
          rw [show mm is S is.length + (j - mm is S is.length) = j by omega] at this
          exact this.symm
        -- what is listed now
        let listed' := listed.setIfInBounds j true
        let S' : Nat → Bool := fun i => listed'.getD i false
        have hS' : ∀ i, S' i = if i = j then true else S i := by
          intro i
          show (listed.setIfInBounds j true).getD i false = _
          have hSi : S i = listed[i]?.getD false := by show listed.getD i false = _; rw [Array.getD_eq_getD_getElem?]
          rw [hSi]
          simp only [Array.getD_eq_getD_getElem?, Array.getElem?_setIfInBounds]
          by_cases hij : j = i
          · subst hij; simp [hjlt']
          · rw [if_neg hij, if_neg (Ne.symm hij)]
        have hcl' : Closed ops.toList S' := by
          intro k i hk hbit
          rw [hS'] at hk ⊢
          split
          · rfl
          · split at hk
            · rename_i hkj; subst hkj; exact hbef i hbit
            · exact hcl k i hk hbit
        have hcnt' : ((List.range ops.size).filter fun i => !listed'.getD i true).length ≤ fuel := by
          have e1 : ((List.range ops.size).filter fun i => !listed'.getD i true) = (((List.range ops.size).filter fun i => !listed.getD i true).filter fun i => i ≠ j) := by
            rw [List.filter_filter]
            apply List.filter_congr
            intro i _
            show (!(listed.setIfInBounds j true).getD i true) = _
            simp only [Array.getD_eq_getD_getElem?, Array.getElem?_setIfInBounds]
            by_cases hij : j = i
            · subst hij; simp [hjlt']
            · rw [if_neg hij]; simp [Ne.symm hij]
          rw [e1]
          have hmem : j ∈ (List.range ops.size).filter fun i => !listed.getD i true := List.mem_filter.2 ⟨List.mem_range.2 hjlt, by simpa using hjl⟩
          have hlt : (((List.range ops.size).filter fun i => !listed.getD i true).filter fun i => decide (i ≠ j)).length < ((List.range ops.size).filter fun i => !listed.getD i true).length :=
            List.length_filter_lt_length_iff_exists.2 ⟨j, hmem, by simp⟩
          omega
        have henv' : ∀ t, (EV is e D S' is.length).get t = ((EV is e D S is.length).put o.dst (D j)).get t := by
          intro t
          rw [get_put]
          have hdj : dstAt is j = o.dst := by simp [dstAt, hio, hdst]
          split
          · rename_i hdt
            refine EV_last (is := is) (D := D) (e := e) (S := S') (t := t) (j := j) (by rw [hS', if_pos rfl]) (by rw [hdj]; exact hdt) is.length (by omega) (fun i h1 h2 h3 h4 => ?_)
            rw [hS', if_neg (by omega)] at h3
            have hii := getio i h2
            have hdi : is[i].dst = some t := by simpa [dstAt, hii] using h4
            have := hafter i (hdf.conf j i _ _ h1 hio hii (by simp [confI, hdst, hdt, hdi]))
            rw [this] at h3; cases h3
          · rename_i hdt
            refine EV_agree (is := is) (D := D) (e := e) (S := S') (S' := S) (t := t) is.length (fun i hi hdi => ?_)
            rw [hS']
            split
            · rename_i hij; subst hij; rw [hdj] at hdi; exact absurd hdi hdt
            · rfl
        have hmmL : loudI io.op = true → mm is S' is.length = j + 1 := by
          intro hl
          have h1 := mm_ge (is := is) (S := S') (i := j) (by rw [hS', if_pos rfl]) (by rw [hloud]; exact hl) is.length (by omega)
          rcases mm_at (is := is) (S := S') is.length with h | ⟨i0, q1, q2, q3, q4⟩
          · omega
          · rcases Nat.lt_trichotomy i0 j with hh | hh | hh
            · omega
            · omega
            · rw [hS', if_neg (by omega)] at q3
              have := (loudS i0 q1 q4 hl).2 hh
              rw [this] at q3; cases q3
        have hmmQ : loudI io.op = false → mm is S' is.length = mm is S is.length := by
          intro hl
          refine mm_congr is.length (fun i hi => ?_)
          rw [hS']
          split
          · rename_i hij; subst hij; rw [hloud, hl]; simp
          · rfl
        have next : ∀ (v : Value) (w' : World) (ρ' : List Value) (F' : Nat → Prop), Post B F (Hh (mm is S is.length)) ρ w (D j) (Hh (mm is S' is.length)) v w' ρ' F' → wpAny P .any ops Q fuel listed' (a.put o.dst v) w' := by
          intro v w' ρ' F' hpost
          have h1 := After.of_post haft.sim hpost hdN
          exact ih listed' _ w' ρ' F' (by simp [listed', hsz]) hcnt' hcl' ((haft.trans h1).congr henv')
        unfold wpOp
        rw [ho]
        simp only
        rw [hw]
        cases hb : bb j with
        | false =>
          simp only [Bool.false_eq_true, if_false]
          obtain ⟨hD, hH⟩ := hno hb
          refine next undef w ρ F ?_
          have hheap : Hh (mm is S' is.length) = Hh (mm is S is.length) := by
            cases hl : loudI io.op with
            | true => rw [hmmL hl, hH, hloudH hl]
            | false => rw [hmmQ hl]
          rw [hheap, hD]
          exact Post.quiet haft.sim.hp VR.tup0
        | true =>
          simp only [if_true]
          left
          have haop := hyes hb
          rw [aop_congr (e' := EV is e D S is.length) (fun t ht => (henv t (by simp [useO, ht])).symm)] at haop
          have main : aop φ io.op (EV is e D S is.length) (Hh (mm is S is.length)) = some (D j, Hh (mm is S' is.length)) := by
            cases hl : loudI io.op with
            | true => rw [hmmL hl, hloudH hl]; exact haop
            | false =>
              rw [hmmQ hl]
              have hHq : Hh (j + 1) = Hh j := aop_quiet hl haop
              rw [hHq] at haop
              by_cases hrd : rdOp io.op = none
              · exact (aop_indep hl hrd).1 haop
              · have hread : readI io.op = true := by
                  cases hop' : io.op <;> rw [hop'] at hrd <;> first | rfl | exact absurd rfl hrd
                have noMod : ∀ i, i < is.length → modAt is i = true → (i < j → S i = true) ∧ (j < i → S i = false) := by
                  intro i hi hm
                  have hii := getio i hi
                  have hm' : modI is[i].op = true := by simpa [modAt, hii] using hm
                  exact ⟨fun hij => hbef i (hdf.conf i j _ _ hij hii hio (by simp [confI, hm', hread])), fun hij => hafter i (hdf.conf j i _ _ hij hio hii (by simp [confI, hm', hread]))⟩
                have modLoud : ∀ i, modAt is i = true → loudAt is i = true := by
                  intro i hm
                  unfold modAt at hm
                  unfold loudAt
                  cases hii : is[i]? with
                  | none => rw [hii] at hm; simp at hm
                  | some q =>
                    rw [hii] at hm
                    simp only [Option.map_some, Option.getD_some] at hm ⊢
                    cases hq : q.op <;> rw [hq] at hm <;> first | rfl | (simp [modI] at hm)
                have jmod : modAt is j = false := by
                  cases hm : modAt is j with
                  | false => rfl
                  | true => have := modLoud j hm; rw [hloud, hl] at this; cases this
                rcases Nat.lt_or_ge j (mm is S is.length) with hmj | hmj
                · have hsame := same_range hrun (mm is S is.length - j) j (by have := mm_le (is := is) (S := S) is.length; omega) (fun i h1 h2 => by
                    cases hm : modAt is i with
                    | false => rfl
                    | true =>
                      exfalso
                      have hij : j < i := by
                        rcases Nat.lt_or_ge j i with h | h
                        · exact h
                        · have : i = j := by omega
                          subst this; rw [jmod] at hm; cases hm
                      have hile := mm_le (is := is) (S := S) is.length
                      have hSi := (noMod i (by omega) hm).2 hij
                      rcases mm_at (is := is) (S := S) is.length with h | ⟨i0, q1, q2, q3, q4⟩
                      · omega
                      · rcases Nat.lt_or_ge i i0 with hh | hh
                        · have hilt : i < is.length := by omega
                          have hii := getio i hilt
                          have hi0 := getio i0 q1
                          have hl1 : loudI is[i].op = true := by have := modLoud i hm; simpa [loudAt, hii] using this
                          have hl2 : loudI is[i0].op = true := by simpa [loudAt, hi0] using q4
                          have hbit := hdf.conf i i0 _ _ hh hii hi0 (by simp [confI, hl1, hl2])
                          have := hcl i0 i q3 hbit
                          have h5 : S i = true := this
                          rw [hSi] at h5; cases h5
                        · have : i = i0 := by omega
                          subst this; rw [hSi] at q3; cases q3)
                  rw [show j + (mm is S is.length - j) = mm is S is.length by omega] at hsame
                  exact (aop_same hl hsame).1 haop
                · have hsame := same_range hrun (j - mm is S is.length) (mm is S is.length) (by omega) (fun i h1 h2 => by
                    cases hm : modAt is i with
                    | false => rfl
                    | true =>
                      exfalso
                      have hSi := (noMod i (by omega) hm).1 (by omega)
                      have := mm_ge (is := is) hSi (modLoud i hm) is.length (by omega)
                      omega)
                  rw [show mm is S is.length + (j - mm is S is.length) = j by omega] at hsame
                  refine (aop_same hl hsame).2 (fun x hx => ?_) haop
                  cases x with
                  | t i => exact (haft.sim.env i).inSc
                  | c v =>
                    have hco := hconst io (List.mem_of_getElem? hio)
                    simp only [constOk, hx] at hco
                    show inSc _ v
                    cases v <;> first | trivial | simp [noHandle] at hco
          exact step_sound hφ hop haft.sim main (fun v w' ρ' F' hpost => next v w' ρ' F' hpost)
  have hfalse : ∀ i, (Array.replicate ops.size false).getD i false = false := by
    intro i
    simp only [Array.getD_eq_getD_getElem?, Array.getElem?_replicate]
    split <;> rfl
  refine key ops.size _ a0 w0 ρ0 F0 (by simp) ?_ ?_ ?_
  · have := List.length_filter_le (fun i => !(Array.replicate ops.size false).getD i true) (List.range ops.size)
    simpa using this
  · intro j i hj
    have h9 : (Array.replicate ops.size false).getD j false = true := hj
    rw [hfalse j] at h9; cases h9
  · rw [EV_congr (S' := fun _ => false) is.length (fun i _ => hfalse i), mm_congr (S' := fun _ => false) is.length (fun i _ => by rw [hfalse i]), EV_false, mm_false, h0]
    exact After.refl hs

end
end Go.PI
