/- The reference's Fork; the law ProcLives. No condition. -/
import Derived.Test.YtgppkhbidcgnlaaDoorLb
namespace Go.Proofs.YtgppkhbidcgnlaaDoor
open Go.PI
set_option maxRecDepth 100000
set_option maxHeartbeats 8000000
set_option linter.unusedSimpArgs false
abbrev tail34 : IC := (f34r22.seq (.cond (.t 80) f34r23 .skip)).seq (f34r24.seq .ret)
theorem t34b {l : List Px} (hl : l.length ≤ 1000000) (ch : Int) (r0 b1 kb : AO) : ∀ (k i g : Nat) (A : List AV), i + k = l.length → A.length = i + 1 → run tbl (.cl [.tmp 6, .tmp 7]) [.blk 0, .seq tail34] (.loop [12, 11, 13, 2, 10, 0] f34b21) [(12, .bool true), (11, .ref 3 g 0 (i + 1)), (13, .int .i64 i), (2, .int .i64 ch), (10, .bptr 2 0), (0, pX l)] [r0, b1, kb, .row 30 13 g A] = some (.tup [.ref 0 0 0 (l.length + 1), .int .i64 0], [.row 30 13 0 (A ++ (l.drop i).map encX)])
  | 0, i, g, A, h, hA => by
    obtain rfl : i = l.length := by omega
    have hT : A.take (l.length + 1) = A := List.take_of_length_le (by omega)
    rw [run_loopD _ _ f34b21_eq]
    simp [hA, hT]
  | k + 1, i, g, A, h, hA => by
    have hi : i < l.length := by omega
    have ih := t34b hl ch r0 b1 kb k (i + 1) (g + 1) (A ++ [encX l[i]]) (by omega) (by simp [hA])
    rw [Int.natCast_succ] at ih
    rw [run_loopD _ _ f34b21_eq, drop_step hi]
    generalize List.drop (i + 1) l = D at ih ⊢
    simp at ih
    simp [hi, hA, wrapS i (by omega), ih, show i ≤ 1073741822 by omega]
theorem t34a {l : List Px} (hl : l.length ≤ 1000000) (ch : Int) (hne : ∀ x ∈ l, x.r.pid ≠ ch) (r0 b1 : AO) (kid : Px) : ∀ (k i g : Nat), i + k = l.length → plc l ch i = plc l ch 0 → run tbl (.cl [.tmp 6, .tmp 7]) [.blk 0, .seq tail34] (.loop [12, 11, 13, 2, 10, 0] f34b21) [(12, .bool false), (11, .ref 3 g 0 i), (13, .int .i64 i), (2, .int .i64 ch), (10, .bptr 2 0), (0, pX l)] [r0, b1, .box 30 13 (encX kid), .row 30 13 g ((l.take i).map encX)] = some (.tup [.ref 0 0 0 (l.length + 1), .int .i64 0], [.row 30 13 0 ((insL l (plc l ch 0) kid).map encX)])
  | 0, i, g, h, hp => by
    obtain rfl : i = l.length := by omega
    rw [plc_end] at hp
    rw [run_loopD _ _ f34b21_eq, ← hp, map_insL]
    simp [insL, show l.length ≤ 1073741823 by omega]
    rw [List.take_of_length_le (by simp), List.drop_of_length_le (by simp)]
  | k + 1, i, g, h, hp => by
    have hi : i < l.length := by omega
    have hni := hne _ (List.getElem_mem hi)
    have hT : ((l.take i).map encX).length = i := by simp; omega
    rw [run_loopD _ _ f34b21_eq]
    by_cases hc : ch < l[i].r.pid
    · rw [plc_no hi (by omega)] at hp
      have ih := t34b hl ch r0 b1 (.box 30 13 (encX kid)) k (i + 1) (g + 1 + 1) ((l.take i).map encX ++ [encX kid, encX l[i]]) (by omega) (by simp; omega)
      have hR : (insL l (plc l ch 0) kid).map encX = (l.take i).map encX ++ [encX kid, encX l[i]] ++ (l.drop (i + 1)).map encX := by
        rw [← hp]
        unfold insL
        rw [drop_step hi]
        simp only [List.map_append, List.map_cons, List.append_assoc, List.cons_append, List.nil_append]
      rw [hR]
      rw [Int.natCast_succ] at ih
      generalize (l.take i).map encX = T at ih hT ⊢
      generalize List.drop (i + 1) l = D at ih ⊢
      simp at ih
      simp [hi, hc, hT, wrapS i (by omega), ih, show i ≤ 1073741823 by omega, show i ≤ 1073741822 by omega]
    · have ih := t34a hl ch hne r0 b1 kid k (i + 1) (g + 1) (by omega) (by rw [← plc_yes hi (by omega)]; exact hp)
      generalize (insL l (plc l ch 0) kid).map encX = R at ih ⊢
      rw [List.take_succ_eq_append_getElem hi, List.map_append, Int.natCast_succ] at ih
      generalize (l.take i).map encX = T at ih hT ⊢
      simp at ih
      simp [hi, hc, hT, wrapS i (by omega), ih, show i ≤ 1073741823 by omega]
theorem c34x {l : List Px} (hl : l.length ≤ 1000000) (hup : Up l) (n ch : Int) : callW tbl 34 [pX l, .int .i64 n, .int .i64 ch] = oc2 l (frk l l n ch (kidQ n ch (atX l (ixG (liveX n) l 0)))) := by
  rw [call_run tbl (f := 34) (fn := f34) rfl _ rfl]
  unfold frk
  have h56 := c56x hl hup n
  have h72 := c72 ch
  have h41 := c41x hl ch
  rcases ix_live (l := l) (n := n) with ⟨i1, _⟩ | ⟨k, hk, i1, _, _⟩
  · rw [i1] at h56 ⊢
    rw [if_pos (by omega)]
    simp [f34, f34body, h56]
  · rw [i1] at h56 ⊢
    rw [if_neg (by omega), atX_eq hk]
    have nk : ¬ (k : Int) < 0 := by omega
    cases hn : numB ch
    · rw [hn] at h72
      rw [if_pos rfl]
      simp [f34, f34body, h56, h72, nk]
    · rw [hn] at h72
      rw [if_neg (by simp)]
      have hany := ixG_any (pidX ch) l
      cases ha : l.any (pidX ch)
      · rw [ha] at hany
        have hneg : ¬ 0 ≤ ixG (pidX ch) l 0 := by simpa using hany
        have hne : ∀ x ∈ l, x.r.pid ≠ ch := fun x hx e => by
          rw [List.any_eq_true.2 ⟨x, hx, by simpa using e⟩] at ha; cases ha
        rw [if_neg (by simp)]
        by_cases h64 : 64 ≤ l.length
        · rw [if_pos h64]
          simp [f34, f34body, h56, h72, nk, h41, hneg, show (64 : Int) ≤ l.length by omega]
        · rw [if_neg h64]
          have h64' : ¬ (64 : Int) ≤ l.length := by omega
          have h73 := c73 l[k].ha.im l[k].hb.im l[k].hc.im
          have ht := t34a hl ch hne (.row 30 13 0 []) (.box 30 13 (encX l[k])) (kidQ n ch l[k]) l.length 0 0 (by omega) rfl
          have hln : (insL l (plc l ch 0) (kidQ n ch l[k])).length = l.length + 1 := by rw [insL_length _ _ _ (plc_le l ch)]
          generalize insL l (plc l ch 0) (kidQ n ch l[k]) = R at ht hln ⊢
          simp [kidQ, kidR] at ht
          simp [f34, f34body, h56, h72, nk, h41, hneg, h64', hk, h73, ht, hln]
      · rw [ha] at hany
        have hpos : 0 ≤ ixG (pidX ch) l 0 := by simpa using hany
        rw [if_pos rfl]
        simp [f34, f34body, h56, h72, nk, h41, hpos]
/- the law -/
theorem kid_toX (n ch : Int) (r : Pr) : kidP n ch (toX r) = kidQ n ch (toX r) := rfl
theorem bndX_rep {n : Int} {x : Px} (h : BndX x) : BndX (rep n x) := by unfold rep; split <;> exact h
theorem bnd_chg {l R : List Px} {n s st e : Int} (h : BndL l) (hs : chg l l n s st = (some R, e)) : BndL R := by
  unfold chg at hs
  split at hs
  · cases hs
  · split at hs
    · cases hs
    · split at hs
      · cases hs
      · split at hs
        · cases hs
        · cases hs; exact bnd_upd h _ fun x hx => hx
theorem bnd_exi {l R : List Px} {n st e : Int} (h : BndL l) (hs : exi l l n st = (some R, e)) : BndL R := by
  unfold exi at hs
  split at hs
  · cases hs
  · split at hs
    · cases hs
    · split at hs
      · cases hs
      · cases hs
        have hu : BndL (upd l (ixG (liveX n) l 0) (zomb st)) := bnd_upd h _ fun x hx => by simp [zomb, BndX]
        refine ⟨by simpa using hu.1, fun y hy => ?_⟩
        obtain ⟨x, hx, rfl⟩ := List.mem_map.1 hy
        exact bndX_rep (hu.2 x hx)
theorem mem_insL {α : Type} {l : List α} {i : Nat} {x y : α} (h : y ∈ insL l i x) : y = x ∨ y ∈ l := by
  simp only [insL, List.mem_append, List.mem_cons] at h
  rcases h with h | h | h
  · exact .inr (List.mem_of_mem_take h)
  · exact .inl h
  · exact .inr (List.mem_of_mem_drop h)
theorem bnd_frk {l R : List Px} {n ch e : Int} {kid : Px} (h : BndL l) (hk : BndX kid) (hs : frk l l n ch kid = (some R, e)) : BndL R := by
  unfold frk at hs
  split at hs
  · cases hs
  · split at hs
    · cases hs
    · split at hs
      · cases hs
      · split at hs
        · cases hs
        · cases hs
          refine ⟨by rw [insL_length _ _ _ (plc_le l ch)]; have := h.1; omega, fun y hy => ?_⟩
          rcases mem_insL hy with rfl | hy
          · exact hk
          · exact h.2 y hy
theorem bnd_at {l : List Px} (h : BndL l) (i : Int) : BndX (atX l i) := by
  unfold atX
  cases hq : l[i.toNat]? with
  | none => simp [toX, dP, BndX]
  | some x => exact h.2 x (List.mem_of_getElem? hq)
theorem c8 (l : List Pr) (n ch s st : Int) (hst : st ≤ 9223372036854775807) : callW tbl 8 [pl l, .int .i64 n, .int .i64 ch, .int .i64 s, .int .i64 st] = some (.bool true, []) := by
  rw [call_run tbl (f := 8) (fn := f8) rfl _ rfl]
  have h20 := c20' l
  cases hs : smL l l.length 0 && decide (vR l = 0)
  · rw [hs] at h20
    simp [f8, f8body, h20, c11]
  · rw [hs] at h20
    simp only [Bool.and_eq_true, decide_eq_true_eq] at hs
    have ok := ok_of_vR hs.2
    have hb := bnd_toX hs.1
    have hu := up_toX ok
    have h27 := c27x hb n ch
    have h34 := c34x hb.len hu n ch
    have h28 := c28x hb n st hst
    have h35 := c35x hb.len hu n st
    have h36 := c36x hb n s st hst
    have h37 := c37x hb.len hu n s st
    have hkid : kidP n ch (atX (l.map toX) (ixG (liveX n) (l.map toX) 0)) = kidQ n ch (atX (l.map toX) (ixG (liveX n) (l.map toX) 0)) := by
      unfold atX
      cases hq : (l.map toX)[(ixG (liveX n) (l.map toX) 0).toNat]? with
      | none => rfl
      | some x =>
        obtain ⟨r, _, rfl⟩ := List.mem_map.1 (List.mem_of_getElem? hq)
        rfl
    rw [hkid, cl_toX] at h27
    rw [cl_toX] at h28 h36
    rw [pl_eq] at h20 ⊢
    have b1 := fun R e => bnd_frk (R := R) (n := n) (ch := ch) (e := e) (kid := kidQ n ch (atX (l.map toX) (ixG (liveX n) (l.map toX) 0))) hb (by have := bnd_at hb (ixG (liveX n) (l.map toX) 0); simp only [BndX, kidQ, kidR] at this ⊢; simp; omega)
    have b2 := fun R e => bnd_exi (R := R) (n := n) (st := st) (e := e) hb
    have b3 := fun R e => bnd_chg (R := R) (n := n) (s := s) (st := st) (e := e) hb
    generalize frk (l.map toX) (l.map toX) n ch (kidQ n ch (atX (l.map toX) (ixG (liveX n) (l.map toX) 0))) = G1 at h27 h34 b1
    generalize exi (l.map toX) (l.map toX) n st = G2 at h28 h35 b2
    generalize chg (l.map toX) (l.map toX) n s st = G3 at h36 h37 b3
    generalize l.map toX = L at *
    obtain ⟨G1, E1⟩ := G1
    obtain ⟨G2, E2⟩ := G2
    obtain ⟨G3, E3⟩ := G3
    have hL := c17x (a := L) (b := L) rfl hb
    have hR := fun R hR => c17x (a := R) (b := R) rfl hR
    cases G1 with
    | none =>
      cases G2 with
      | none =>
        cases G3 with
        | none => simp [f8, f8body, h20, h27, h34, h28, h35, h36, h37, hL, c11]
        | some R3 => simp [f8, f8body, h20, h27, h34, h28, h35, h36, h37, hL, hR R3 (b3 _ _ rfl), c11]
      | some R2 =>
        cases G3 with
        | none => simp [f8, f8body, h20, h27, h34, h28, h35, h36, h37, hL, hR R2 (b2 _ _ rfl), c11]
        | some R3 => simp [f8, f8body, h20, h27, h34, h28, h35, h36, h37, hL, hR R2 (b2 _ _ rfl), hR R3 (b3 _ _ rfl), c11]
    | some R1 =>
      cases G2 with
      | none =>
        cases G3 with
        | none => simp [f8, f8body, h20, h27, h34, h28, h35, h36, h37, hL, hR R1 (b1 _ _ rfl), c11]
        | some R3 => simp [f8, f8body, h20, h27, h34, h28, h35, h36, h37, hL, hR R1 (b1 _ _ rfl), hR R3 (b3 _ _ rfl), c11]
      | some R2 =>
        cases G3 with
        | none => simp [f8, f8body, h20, h27, h34, h28, h35, h36, h37, hL, hR R1 (b1 _ _ rfl), hR R2 (b2 _ _ rfl), c11]
        | some R3 => simp [f8, f8body, h20, h27, h34, h28, h35, h36, h37, hL, hR R1 (b1 _ _ rfl), hR R2 (b2 _ _ rfl), hR R3 (b3 _ _ rfl), c11]
end Go.Proofs.YtgppkhbidcgnlaaDoor
