/- The law ProcOnce: a child is waited for once. No condition. -/
import Derived.Test.YtgppkhbidcgnlaaDoorLc
namespace Go.Proofs.YtgppkhbidcgnlaaDoor
open Go.PI
set_option maxRecDepth 100000
set_option maxHeartbeats 8000000
set_option linter.unusedSimpArgs false
/- Find, where there is none -/
theorem t12n {l : List Px} (hl : l.length ≤ 1000000) (n : Int) (hn : ∀ x ∈ l, x.r.pid ≠ n) : ∀ (k i : Nat) (Z : List AO), i + k = l.length → run tbl (.cl [.cell 4 true 13, .tmp 5]) [.blk 0, .seq (f12r10.seq .ret)] (.loop [9, 8, 1, 10, 4] f12b9) [(9, .int .i64 l.length), (8, pX l), (1, .int .i64 n), (10, .int .i64 i), (4, .bptr 0 0)] (.box 30 13 zP :: Z) = some (.tup [zP, .bool false], [])
  | 0, i, Z, h => by
    rw [run_loopD _ _ f12b9_eq]
    simp [show ¬ i < l.length by omega]
  | k + 1, i, Z, h => by
    have hi : i < l.length := by omega
    have ih := fun Z => t12n hl n hn k (i + 1) Z (by omega)
    rw [Int.natCast_succ] at ih
    have hp := hn _ (List.getElem_mem hi)
    rw [run_loopD _ _ f12b9_eq]
    simp [hi, hp, wrapS i (by omega), ih]
theorem c12n {l : List Px} (hl : l.length ≤ 1000000) (n : Int) (hn : ∀ x ∈ l, x.r.pid ≠ n) : callW tbl 12 [pX l, .int .i64 n] = some (.tup [zP, .bool false], []) := by
  rw [call_run tbl (f := 12) (fn := f12) rfl _ rfl]
  have h := t12n hl n hn l.length 0 [] (by omega)
  simp at h
  simp [f12, f12body, h]
/- what Wait gives -/
theorem ix_pos {l : List Px} {n : Int} (h : l.any (liveX n) = true) : ¬ ixG (liveX n) l 0 < 0 := by
  have := ixG_any (liveX n) l
  rw [h] at this
  have : 0 ≤ ixG (liveX n) l 0 := by simpa using this
  omega
theorem waS_none {l L : List Px} {n w f : Int} (hl : l.any (liveX n) = true) (h : ∀ x ∈ l, mr n w f x = false) : waS l L n w f = if l.any (meantB n w) = false then ⟨none, 0, 0, 0, 20⟩ else ⟨none, 0, 0, if abits .and .i64 f 1 ≠ 0 then 3 else 2, 0⟩ := by
  unfold waS
  rw [if_neg (ix_pos hl)]
  unfold waF waE
  rw [List.drop_zero, ixG_none h, if_pos (by omega)]
  simp
theorem waS_some {l L : List Px} {n w f : Int} (hl : l.any (liveX n) = true) {k : Nat} (hk : k < l.length) (h : mr n w f l[k] = true) (h2 : ∀ j, (hj : j < k) → mr n w f l[j] = false) : waS l L n w f = ⟨some (waL L k l[k]), l[k].r.pid, l[k].r.status, 1, 0⟩ := by
  unfold waS
  rw [if_neg (ix_pos hl)]
  unfold waF
  rw [List.drop_zero, ixG_at hk h h2, if_neg (by omega), atX_eq hk]
/- a place in an ascending list -/
theorem plc_lt {l : List Px} {ch : Int} {j : Nat} (hj : j < plc l ch 0) (h : j < l.length) : l[j].r.pid < ch := by
  unfold plc at hj
  rw [List.drop_zero, Nat.zero_add] at hj
  have h1 : l[j] = (l.takeWhile (blw ch))[j] := by
    have := List.takeWhile_prefix (blw ch) (l := l)
    exact (List.IsPrefix.getElem this hj).symm
  have h2 : (l.takeWhile (blw ch))[j] ∈ l.takeWhile (blw ch) := List.getElem_mem hj
  have h3 := List.all_eq_true.1 (List.all_takeWhile (p := blw ch) (l := l)) _ h2
  rw [← h1] at h3
  simpa using h3
theorem plc_ge {l : List Px} {ch : Int} (hu : Up l) {j : Nat} (hj : plc l ch 0 ≤ j) (h : j < l.length) : ch ≤ l[j].r.pid := by
  have hp : plc l ch 0 < l.length := by omega
  have h0 : ¬ l[plc l ch 0].r.pid < ch := by
    unfold plc at hp ⊢
    simp only [List.drop_zero, Nat.zero_add] at hp ⊢
    have := List.takeWhile_append_dropWhile (p := blw ch) (l := l)
    intro hc
    have hne : l.dropWhile (blw ch) ≠ [] := by
      intro e
      have hl := congrArg List.length this
      rw [e] at hl
      simp at hl
      omega
    have hh := List.head_dropWhile_not (blw ch) hne
    have hg : l[(l.takeWhile (blw ch)).length] = (l.dropWhile (blw ch)).head hne := by
      have e1 : (l.takeWhile (blw ch) ++ l.dropWhile (blw ch))[(l.takeWhile (blw ch)).length]? = (l.dropWhile (blw ch))[0]? := by
        rw [List.getElem?_append_right (Nat.le_refl _), Nat.sub_self]
      rw [this] at e1
      rw [List.getElem?_eq_getElem hp] at e1
      rw [List.head_eq_getElem hne]
      have e2 := e1.symm
      rw [List.getElem?_eq_some_iff] at e2
      obtain ⟨_, e2⟩ := e2
      exact e2.symm
    rw [← hg] at hh
    simp [hc] at hh
  rcases Nat.lt_or_ge (plc l ch 0) j with c | c
  · have := hu.lt hp h c; omega
  · have : plc l ch 0 = j := by omega
    subst this
    omega
/- a list with one more -/
theorem insL_any {α : Type} (p : α → Bool) (l : List α) (i : Nat) (x : α) : (insL l i x).any p = (p x || l.any p) := by
  unfold insL
  conv => rhs; rw [← List.take_append_drop i l]
  simp only [List.any_append, List.any_cons]
  cases p x <;> simp
theorem insL_all {α : Type} {P : α → Prop} {l : List α} {i : Nat} {x : α} (h : ∀ y ∈ l, P y) (hx : P x) : ∀ y ∈ insL l i x, P y := by
  intro y hy
  rcases mem_insL hy with rfl | hy
  · exact hx
  · exact h y hy
theorem insL_at {α : Type} {l : List α} {i : Nat} {x : α} (h : i ≤ l.length) (hl : i < (insL l i x).length) : (insL l i x)[i] = x := by
  have e : (insL l i x)[i]? = some x := by
    unfold insL
    rw [List.getElem?_append_right (by simp; omega)]
    simp [Nat.min_eq_left h]
  rw [List.getElem?_eq_getElem hl] at e
  exact Option.some.inj e
theorem insL_lt {α : Type} {l : List α} {i j : Nat} {x : α} (h : i ≤ l.length) (hj : j < i) (hl : j < (insL l i x).length) : (insL l i x)[j] = l[j] := by
  have e : (insL l i x)[j]? = l[j]? := by
    unfold insL
    rw [List.getElem?_append_left (by simp; omega), List.getElem?_take, if_pos hj]
  rw [List.getElem?_eq_getElem hl, List.getElem?_eq_getElem (by omega)] at e
  exact Option.some.inj e
theorem upd_insL {l : List Px} {i : Nat} {x : Px} (h : i ≤ l.length) (f : Px → Px) : upd (insL l i x) i f = insL l i (f x) := by
  have hl : i < (insL l i x).length := by rw [insL_length _ _ _ h]; omega
  unfold upd
  rw [show ((i : Int)).toNat = i by omega, List.getElem?_eq_getElem hl, insL_at h hl]
  simp only
  unfold insL
  rw [List.set_append_right _ _ (by simp; omega)]
  simp [Nat.min_eq_left h]
theorem erase_insL {α : Type} {l : List α} {i : Nat} {x : α} (h : i ≤ l.length) : (insL l i x).eraseIdx i = l := by
  unfold insL
  rw [List.eraseIdx_append_of_length_le (by simp; omega)]
  simp [Nat.min_eq_left h]
theorem up_insL {l : List Px} (hu : Up l) {ch : Int} (hne : ∀ x ∈ l, x.r.pid ≠ ch) {y : Px} (hy : y.r.pid = ch) : Up (insL l (plc l ch 0) y) := by
  have hp := plc_le l ch
  have hu2 : (((l.take (plc l ch 0)) ++ l.drop (plc l ch 0)).map (·.r)).Pairwise (fun a b => a.pid < b.pid) := by rw [List.take_append_drop]; exact hu
  rw [List.map_append, List.pairwise_append] at hu2
  show ((insL l (plc l ch 0) y).map (·.r)).Pairwise _
  unfold insL
  rw [List.map_append, List.map_cons, List.pairwise_append, List.pairwise_cons]
  have hlo : ∀ a ∈ (l.take (plc l ch 0)).map (·.r), a.pid < ch := by
    intro a ha
    obtain ⟨x, hx, rfl⟩ := List.mem_map.1 ha
    obtain ⟨j, hj, rfl⟩ := List.mem_take_iff_getElem.1 hx
    exact plc_lt (by omega) (by omega)
  have hhi : ∀ a ∈ (l.drop (plc l ch 0)).map (·.r), ch < a.pid := by
    intro a ha
    obtain ⟨x, hx, rfl⟩ := List.mem_map.1 ha
    obtain ⟨j, hj, rfl⟩ := List.mem_drop_iff_getElem.1 hx
    have h1 := plc_ge hu (ch := ch) (j := plc l ch 0 + j) (by omega) (by omega)
    have h2 := hne _ (List.getElem_mem (show plc l ch 0 + j < l.length by omega))
    omega
  refine ⟨hu2.1, ⟨fun a ha => by rw [hy]; exact hhi a ha, hu2.2.1⟩, fun a ha b hb => ?_⟩
  rcases List.mem_cons.1 hb with rfl | hb
  · rw [hy]; exact hlo a ha
  · have h1 := hlo a ha; have h2 := hhi b hb; omega
theorem bnd_insL {l : List Px} (h : BndL l) (h64 : l.length < 64) {i : Nat} (hi : i ≤ l.length) {y : Px} (hy : BndX y) : BndL (insL l i y) := ⟨by rw [insL_length _ _ _ hi]; omega, insL_all h.2 hy⟩
theorem meant_not {n ch : Int} (hc : 0 < ch) {x : Px} (h : x.r.pid ≠ ch) : meantB n ch x = false := by
  unfold meantB
  simp [h, show ¬ ch = 0 by omega, show ¬ ch < 0 by omega]
theorem meant_yes {n ch : Int} (hc : 0 < ch) {x : Px} (h : x.r.pid = ch) (hp : x.r.ppid = n) : meantB n ch x = true := by
  unfold meantB
  simp [h, hp, hc]
theorem rep_none {n : Int} {l : List Px} (h : ∀ x ∈ l, x.r.ppid ≠ n) : l.map (rep n) = l := by
  conv => rhs; rw [← List.map_id l]
  apply List.map_congr_left
  intro x hx
  simp [rep, h x hx]
/-- in a valid list, who is the parent's number -/
theorem ppid_in {l : List Pr} (h : OkP l) : ∀ r ∈ l, r.ppid = 0 ∨ ∃ q ∈ l, q.pid = r.ppid := by
  intro r hr
  obtain ⟨j, hj, rfl⟩ := List.getElem_of_mem hr
  have h1 := (h.all j hj).2
  rw [atP_eq hj] at h1
  unfold relR at h1
  split at h1
  · omega
  · rename_i hp
    rcases Nat.eq_zero_or_pos j with rfl | hj0
    · left
      have := h.hd.2.1
      rwa [atP_eq hj] at this
    · right
      have key : ∀ (k i : Nat) (b : Bool), i + k = l.length → parF l j l[j].ppid k i b = true → b = true ∨ ∃ q ∈ l, q.pid = l[j].ppid := by
        intro k
        induction k with
        | zero => intro i b _ h; exact .inl h
        | succ k ih =>
          intro i b hi h
          rw [parF] at h
          rcases ih (i + 1) _ (by omega) h with h2 | h2
          · split at h2
            · rename_i hc
              right
              have hil : i < l.length := by omega
              rw [atP_eq hil] at hc
              exact ⟨l[i], List.getElem_mem hil, hc.2.1⟩
            · exact .inl h2
          · exact .inr h2
      have hpt : parF l j l[j].ppid l.length 0 (decide (j = 0)) = true := by
        cases hq : parF l j l[j].ppid l.length 0 (decide (j = 0))
        · exact absurd hq hp
        · rfl
      rcases key l.length 0 _ (by omega) hpt with h2 | h2
      · simp at h2; omega
      · exact h2
theorem c6 (l : List Pr) (n ch st : Int) : callW tbl 6 [pl l, .int .i64 n, .int .i64 ch, .int .i64 st] = some (.bool true, []) := by
  rw [call_run tbl (f := 6) (fn := f6) rfl _ rfl]
  have h20 := c20' l
  cases hs : smL l l.length 0 && decide (vR l = 0)
  · rw [hs] at h20
    simp [f6, f6body, h20, c11]
  · rw [hs] at h20
    by_cases s0 : st < 0
    · simp [f6, f6body, h20, s0, c11]
    · by_cases s1 : 255 < st
      · simp [f6, f6body, h20, s0, s1, c11]
      · simp only [Bool.and_eq_true, decide_eq_true_eq] at hs
        have ok := ok_of_vR hs.2
        have hb := bnd_toX hs.1
        have hu := up_toX ok
        have h27 := c27x hb n ch
        have hpp : ∀ x ∈ l.map toX, x.r.ppid = 0 ∨ ∃ q ∈ l.map toX, q.r.pid = x.r.ppid := by
          intro x hx
          obtain ⟨r, hr, rfl⟩ := List.mem_map.1 hx
          rcases ppid_in ok r hr with h | ⟨q, hq, h⟩
          · exact .inl h
          · exact .inr ⟨toX q, List.mem_map.2 ⟨q, hq, rfl⟩, h⟩
        have h1in : ∃ x ∈ l.map toX, x.r.pid = 1 := by
          have hl0 : 0 < l.length := List.length_pos_iff.2 ok.ne
          refine ⟨toX l[0], List.mem_map.2 ⟨_, List.getElem_mem hl0, rfl⟩, ?_⟩
          have := ok.hd.1
          rwa [atP_eq hl0] at this
        have hcl := cl_toX l
        rw [pl_eq] at h20 ⊢
        generalize l.map toX = L at *
        rw [hcl] at h27
        have hL := c17x (a := L) (b := L) rfl hb
        unfold frk at h27
        by_cases g1 : ixG (liveX n) L 0 < 0
        · rw [if_pos g1] at h27
          simp [f6, f6body, h20, s0, s1, h27, hL, c11]
        · rw [if_neg g1] at h27
          cases hn : numB ch
          · rw [hn, if_pos rfl] at h27
            simp [f6, f6body, h20, s0, s1, h27, hL, c11]
          · rw [hn, if_neg (by simp)] at h27
            cases ha : L.any (pidX ch)
            · rw [ha, if_neg (by simp)] at h27
              by_cases h64 : 64 ≤ L.length
              · rw [if_pos h64] at h27
                simp [f6, f6body, h20, s0, s1, h27, hL, c11]
              · rw [if_neg h64] at h27
                have hne : ∀ x ∈ L, x.r.pid ≠ ch := fun x hx e => by
                  rw [List.any_eq_true.2 ⟨x, hx, by simpa using e⟩] at ha; cases ha
                have hc0 : 0 < ch := by simp [numB] at hn; omega
                have hany : L.any (liveX n) = true := by
                  rw [← ixG_any]; simp; omega
                have hnch : n ≠ ch := by
                  obtain ⟨x, hx, hp⟩ := List.any_eq_true.1 hany
                  simp [liveX] at hp
                  rw [← hp.1]; exact hne x hx
                have hch1 : ch ≠ 1 := by
                  obtain ⟨x, hx, hp⟩ := h1in
                  rw [← hp]; exact fun e => hne x hx e.symm
                have hp := plc_le L ch
                have hbk := bnd_at hb (ixG (liveX n) L 0)
                have huI := fun y => up_insL hu hne (y := y)
                have hlt := fun (y : Px) j (hj : j < plc L ch 0) hl => insL_lt (x := y) hp hj hl
                generalize atX L (ixG (liveX n) L 0) = x0 at h27 hbk
                have hbK : BndX (kidP n ch x0) := by simp only [BndX, kidP, kidR] at hbk ⊢; simp; omega
                have hbR := bnd_insL hb (by omega) hp hbK
                have huR := huI (kidP n ch x0) rfl
                have w1 := c21x hbR huR n ch 6
                rw [waS_none (by rw [insL_any, hany, Bool.or_true]) (insL_all (fun x hx => by simp [mr, meant_not hc0 (hne x hx)]) (by simp [mr, readyB, kidP, kidR])), insL_any, meant_yes (n := n) (x := kidP n ch x0) hc0 rfl rfl, Bool.true_or, if_neg (by simp), if_neg (by simp; kernel_rfl)] at w1
                have e1 := c28x hbR ch st (by omega)
                have hz : (zomb st (clX (kidP n ch x0))).r.pid = ch := rfl
                have hzp : (zomb st (clX (kidP n ch x0))).r.ppid = n := rfl
                have hix : ixG (liveX ch) (insL L (plc L ch 0) (kidP n ch x0)) 0 = (plc L ch 0 : Nat) := by
                  have hl : plc L ch 0 < (insL L (plc L ch 0) (kidP n ch x0)).length := by rw [insL_length _ _ _ hp]; omega
                  refine ixG_at hl (by rw [insL_at hp hl]; simp [liveX, kidP, kidR]) (fun j hj => ?_)
                  rw [hlt _ j hj]
                  simp [liveX, hne _ (List.getElem_mem (show j < L.length by omega))]
                have hkd : kd st = 0 := by
                  unfold kd kdv
                  rw [if_neg (by omega), if_neg (by omega)]
                  show st / 256 = 0
                  omega
                unfold exi at e1
                rw [hix, if_neg (by omega), if_neg hch1, if_neg (fun h => h (.inl hkd)), map_insL, hcl, upd_insL hp, rep_none (insL_all (fun x hx => by
                  rcases hpp x hx with h | ⟨q, hq, h⟩
                  · omega
                  · rw [← h]; exact hne q hq) (by rw [hzp]; exact hnch))] at e1
                have hbZ : BndX (zomb st (clX (kidP n ch x0))) := by simp [BndX, zomb]
                have hz3 : (zomb st (clX (kidP n ch x0))).r.state = 3 := rfl
                have hzs : (zomb st (clX (kidP n ch x0))).r.status = st := rfl
                generalize zomb st (clX (kidP n ch x0)) = z at *
                have hbC := bnd_insL hb (by omega) hp hbZ
                have huC := huI z hz
                have w2 := c21x hbC huC n ch 0
                have hlz : plc L ch 0 < (insL L (plc L ch 0) z).length := by rw [insL_length _ _ _ hp]; omega
                rw [waS_some (k := plc L ch 0) (by rw [insL_any, hany, Bool.or_true]) hlz (by rw [insL_at hp hlz]; simp [mr, meant_yes hc0 hz hzp, readyB, hz3]) (fun j hj => by
                  rw [hlt _ j hj]
                  simp [mr, meant_not hc0 (hne _ (List.getElem_mem (show j < L.length by omega)))]), insL_at hp hlz, hz, hzs] at w2
                unfold waL at w2
                rw [if_pos hz3, show ((plc L ch 0 : Nat) : Int).toNat = plc L ch 0 by omega, map_insL, hcl, erase_insL hp] at w2
                have w3 := c21x hb hu n ch 0
                rw [waS_none hany (fun x hx => by simp [mr, meant_not hc0 (hne x hx)]), if_pos (by
                  cases hq : L.any (meantB n ch)
                  · rfl
                  · obtain ⟨x, hx, hm⟩ := List.any_eq_true.1 hq
                    rw [meant_not hc0 (hne x hx)] at hm; cases hm)] at w3
                have f1 := c12n hb.len ch hne
                have hR := c17x (a := insL L (plc L ch 0) (kidP n ch x0)) (b := insL L (plc L ch 0) (kidP n ch x0)) rfl hbR
                generalize insL L (plc L ch 0) (kidP n ch x0) = R at *
                generalize insL L (plc L ch 0) z = C at *
                simp only [oc5] at w1 w2 w3
                simp [f6, f6body, h20, s0, s1, h27, w1, e1, w2, w3, f1, hR, hL, c11]
            · rw [ha, if_pos rfl] at h27
              simp [f6, f6body, h20, s0, s1, h27, hL, c11]
end Go.Proofs.YtgppkhbidcgnlaaDoor
