/- Prompts: what the program's Expand computes. No condition. -/
import Derived.Test.YteinopeeicjnjaaDoorRf
namespace Go.Proofs.YteinopeeicjnjaaDoor
open Go.PI
set_option maxRecDepth 100000
set_option maxHeartbeats 8000000
set_option linter.unusedSimpArgs false
abbrev bld (g n : Nat) (p : AV) : AO := .box 47 2 (.agg [p, .ref 1 g 0 n])
theorem ws_call (B Z : AO) (g : Nat) (p : AV) (o t : List UInt8) (hp : okP 2 p = true) (hm : o.length + t.length ≤ 1073741824) :
    callV tbl 19 [.bptr 2 0, .str t] [B, .row 5 1 g (bs8 o), bld g o.length p, Z] = some (.tup [.int .i64 t.length, .top], [B, .row 5 1 (g + 1) (bs8 (o ++ t)), bld (g + 1) (o ++ t).length (.bptr 2 0), Z]) := by
  rw [callV_ext tbl rfl]
  show bwX [B, .row 5 1 g (bs8 o), bld g o.length p, Z] [.bptr 2 0, .str t] = _
  simp [bwX, maxRow, hm, hp, bs8]
theorem st_call (B Z : AO) (g : Nat) (p : AV) (o : List UInt8) :
    callV tbl 21 [.bptr 2 0] [B, .row 5 1 g (bs8 o), bld g o.length p, Z] = some (.str o, [B, .row 5 1 (g + 1) [], bld g o.length p, Z]) := by
  rw [callV_ext tbl rfl]
  show stX [B, .row 5 1 g (bs8 o), bld g o.length p, Z] [.bptr 2 0] = _
  have h := bytesX_map o
  simp [stX, h]
theorem ln_call (B R Z : AO) (g n : Nat) (p : AV) : callV tbl 20 [.bptr 2 0] [B, R, bld g n p, Z] = some (.int .i64 n, [B, R, bld g n p, Z]) := by
  rw [callV_run tbl (f := 20) (fn := f20) rfl _ _ rfl]
  simp [f20, f20body]
/-- the end of Expand -/
theorem t9e (e : En) (s : List UInt8) (hs : s.length ≤ 10000) (j n : Int) (g d : Nat) (hd : d ≤ s.length) (p : AV) (hp : okP 2 p = true) (o : List UInt8) (ho : o.length ≤ 10000) (it : AO) (q q' : AV) (E : Env)
    (hE : E = [(18, q), (17, q'), (16, .itr 3), (1, .str s), (10, .int .i64 d), (9, .bptr 2 0), (4, .bptr 0 0), (2, .int .i64 j), (3, .int .i64 n)]) :
    run tbl (.cl [.tmp 8]) [.seq (.seq f9r19 .ret)] f9r18 E [.box 30 15 (encE e), .row 5 1 g (bs8 o), bld g o.length p, it] = some (.str ((o ++ s.drop d).take 4096), []) := by
  subst hE
  have hw := ws_call (.box 30 15 (encE e)) it g p o (s.drop d) hp (by simp; omega)
  have hst := st_call (.box 30 15 (encE e)) it (g + 1) (.bptr 2 0) (o ++ s.drop d)
  have hln := ln_call (.box 30 15 (encE e)) (.row 5 1 (g + 1 + 1) []) it (g + 1) (o ++ s.drop d).length (.bptr 2 0)
  have htk : (s.drop d).take (s.length - d) = s.drop d := List.take_of_length_le (by simp)
  have hlen : (o ++ s.drop d).length ≤ 20000 := by simp; omega
  generalize hT : o ++ s.drop d = T at hw hst hln hlen ⊢
  by_cases hc : T.length ≤ 4096
  · have hc' : ¬ (4096 : Int) < (T.length : Int) := by omega
    have e1 : T.take 4096 = T := List.take_of_length_le hc
    simp [hd, htk, hw, hst, hln, e1, hc']
  · have hc' : (4096 : Int) < (T.length : Int) := by omega
    simp [hd, htk, hw, hst, hln, hc', show 4096 ≤ T.length by omega]
abbrev stdE (s : List UInt8) (j n : Int) (d : Nat) : Env := [(16, .itr 3), (1, .str s), (10, .int .i64 d), (9, .bptr 2 0), (4, .bptr 0 0), (2, .int .i64 j), (3, .int .i64 n)]
theorem t9 (e : En) (hsm : Sm e) (he : EnOk e) (s : List UInt8) (hs : s.length ≤ 5000) (j n : Int) (hj : I64 j) (hn : I64 n) : ∀ (k pos g d : Nat) (p : AV) (o : List UInt8) (E : Env), s.length ≤ pos + k → pos ≤ s.length → d ≤ s.length → o.length < 4096 → okP 2 p = true →
    X e j n s = o ++ X e j n (s.drop d) → (d ≤ pos → X e j n (s.drop d) = (s.drop d).take (pos - d) ++ X e j n (s.drop pos)) → scrub [16, 1, 10, 9, 4, 2, 3] E = stdE s j n d →
    run tbl (.cl [.tmp 8]) [.blk 0, .seq (.seq f9r18 (.seq f9r19 .ret))] (.loop [16, 1, 10, 9, 4, 2, 3] f9b17) E [.box 30 15 (encE e), .row 5 1 g (bs8 o), bld g o.length p, .obj (.it s pos)] = some (.str ((X e j n s).take 4096), []) := by
  have fin : ∀ (g d : Nat) (p : AV) (o : List UInt8) (E : Env), d ≤ s.length → o.length < 4096 → okP 2 p = true →
      X e j n s = o ++ X e j n (s.drop d) → X e j n (s.drop d) = (s.drop d).take (s.length - d) ++ X e j n (s.drop s.length) → scrub [16, 1, 10, 9, 4, 2, 3] E = stdE s j n d →
      run tbl (.cl [.tmp 8]) [.blk 0, .seq (.seq f9r18 (.seq f9r19 .ret))] (.loop [16, 1, 10, 9, 4, 2, 3] f9b17) E [.box 30 15 (encE e), .row 5 1 g (bs8 o), bld g o.length p, .obj (.it s s.length)] = some (.str ((X e j n s).take 4096), []) := by
    intro g d p o E h3 h4 h5 h6 h8 hE
    rw [run_loop_scrub _ _ _ _ _ _ _ (by rw [hE]; rfl), hE, run_loopD _ _ f9b17_eq]
    rw [List.drop_length, X_nil, List.append_nil, List.take_of_length_le (by simp)] at h8
    rw [h8] at h6
    have hend := t9e e s (by omega) j n g d h3 p h5 o (by omega) (.obj (.it s s.length)) (.bool false) (.tup [.bool false]) _ rfl
    rw [← h6] at hend
    simp [-f9r18_run, hend]
  intro k
  induction k with
  | zero =>
    intro pos g d p o E h1 h2 h3 h4 h5 h6 h7 hE
    obtain rfl : pos = s.length := by omega
    exact fin g d p o E h3 h4 h5 h6 (h7 h3) hE
  | succ k ih =>
    intro pos g d p o E h1 h2 h3 h4 h5 h6 h7 hE
    by_cases hp0 : pos = s.length
    · subst hp0
      exact fin g d p o E h3 h4 h5 h6 (h7 h3) hE
    have hp : pos < s.length := by omega
    rw [run_loop_scrub _ _ _ _ _ _ _ (by rw [hE]; rfl), hE, run_loopD _ _ f9b17_eq]
    have glue : ∀ m, d ≤ pos → pos + m ≤ s.length → X e j n (s.drop pos) = (s.drop pos).take m ++ X e j n (s.drop (pos + m)) → X e j n (s.drop d) = (s.drop d).take (pos + m - d) ++ X e j n (s.drop (pos + m)) := by
      intro m hd hm hx
      rw [h7 hd, hx, ← List.append_assoc]
      congr 1
      rw [show pos + m - d = (pos - d) + m by omega, List.take_add, List.drop_drop, show d + (pos - d) = pos by omega]
    by_cases ha : s[pos].toNat < 128
    · have hd := dec_ascii s pos hp ha
      by_cases hlt : pos < d
      · have ih' := fun E hE => ih (pos + 1) g d p o E (by omega) (by omega) h3 h4 h5 h6 (fun hle => by
          obtain rfl : d = pos + 1 := by omega
          simp) hE
        have hlt' : (pos : Int) < (d : Int) := by omega
        simp [-f9r18_run, hp, hd, hlt', ih']
      · have hlt' : ¬ (pos : Int) < (d : Int) := by omega
        have hdp : d ≤ pos := by omega
        have hcons : s.drop pos = s[pos] :: s.drop (pos + 1) := drop_step hp
        have lit : (seq1 e j n (s.drop pos)).2 = 0 → X e j n (s.drop d) = (s.drop d).take (pos + 1 - d) ++ X e j n (s.drop (pos + 1)) := by
          intro h0
          refine glue 1 hdp (by omega) ?_
          rw [hcons] at h0 ⊢
          rw [X_lit h0]
          rfl
        have hhead : (s.drop pos).head? = some s[pos] := by rw [hcons]; rfl
        have ihl := fun (h0 : (seq1 e j n (s.drop pos)).2 = 0) E hE => ih (pos + 1) g d p o E (by omega) (by omega) h3 h4 h5 h6 (fun _ => lit h0) hE
        have htk : (s.drop pos).take (s.length - pos) = s.drop pos := List.take_of_length_le (by simp)
        -- a sequence
        have sq : ∀ (t : List UInt8) (m : Nat), seq1 e j n (s.drop pos) = (t, m) → m ≠ 0 → t.length ≤ 1000000000 →
            pos + m ≤ s.length ∧ X e j n s = (o ++ (s.drop d).take (pos - d) ++ t) ++ X e j n (s.drop (pos + m)) := by
          intro t m hq hm ht
          have hle := seq1_le e j n (s.drop pos)
          have hx := X_seq (e := e) (j := j) (n := n) (l := s.drop pos) (by rw [hq]; exact hm)
          rw [hq] at hle hx
          simp only [List.length_drop] at hle
          refine ⟨by omega, ?_⟩
          rw [h6, h7 hdp, hx, List.drop_drop]
          simp [List.append_assoc]
        -- what is written
        have hbx : ∀ Z : AO, callV tbl 19 [.bptr 2 0, .str ((s.drop d).take (pos - d))] [.box 30 15 (encE e), .row 5 1 g (bs8 o), bld g o.length p, Z] = _ := fun Z => ws_call (.box 30 15 (encE e)) Z g p o ((s.drop d).take (pos - d)) h5 (by simp; omega)
        have ho1 : (o ++ (s.drop d).take (pos - d)).length ≤ 10000 := by simp; omega
        have hdo : (o ++ (s.drop d).take (pos - d)) = o ++ (s.drop d).take (pos - d) := rfl
        generalize hO : o ++ (s.drop d).take (pos - d) = O at hbx ho1
        by_cases e36 : s[pos] = 36
        · have q36 : (s[pos].toNat : Int) = 36 := by rw [e36]; rfl
          have q92 : ¬ (s[pos].toNat : Int) = 92 := by omega
          have hsq : seq1 e j n (s.drop pos) = prT e (s.drop pos) := by unfold seq1; rw [hhead, e36, if_pos rfl]
          have h17 := c17 e he (s.drop pos) (by simp; omega)
          have hpl := prT_len hsm he (s.drop pos)
          obtain ⟨t, m, hx⟩ : ∃ t m, prT e (s.drop pos) = (t, m) := ⟨_, _, rfl⟩
          rw [hx] at h17 hpl
          simp only at hpl
          rw [hx] at hsq
          by_cases hm : m = 0
          · subst hm
            have ih' := ihl (by rw [hsq])
            simp [-f9r18_run, hp, hd, hlt', eq_true q36, q92, show pos ≤ s.length by omega, htk, h17, ih']
          · obtain ⟨hpm, hX⟩ := sq t m hsq hm hpl
            have hw2 := fun Z : AO => ws_call (.box 30 15 (encE e)) Z (g + 1) (.bptr 2 0) O t rfl (by omega)
            have hln := fun Z : AO => ln_call (.box 30 15 (encE e)) (.row 5 1 (g + 1 + 1) (bs8 (O ++ t))) Z (g + 1 + 1) (O ++ t).length (.bptr 2 0)
            have hst := fun Z : AO => st_call (.box 30 15 (encE e)) Z (g + 1 + 1) (.bptr 2 0) (O ++ t)
            rw [hO] at hX
            have hm2 : 2 ≤ m := by have := seq1_le e j n (s.drop pos); rw [hsq] at this; simp only at this; omega
            have hm' : ¬ (m : Int) = 0 := by omega
            have wpm := wrap64 ((pos : Int) + (m : Int)) (by omega) (by omega)
            generalize hQ : O ++ t = Q at hw2 hln hst hX
            by_cases hc : (4096 : Int) ≤ (Q.length : Int)
            · have hres : (X e j n s).take 4096 = Q.take 4096 := by rw [hX, List.take_append_of_le_length (by omega)]
              rw [hres]
              simp [-f9r18_run, hp, hd, hlt', eq_true q36, q92, show pos ≤ s.length by omega, htk, h17, hdp, h3, hbx, hw2, hln, hst, hm, hm', wpm, hc, show 4096 ≤ Q.length by omega]
            · have ih' := fun E hE => ih (pos + 1) (g + 1 + 1) (pos + m) (.bptr 2 0) Q E (by omega) (by omega) hpm (by omega) rfl hX (fun hle => by omega) hE
              simp [-f9r18_run, hp, hd, hlt', eq_true q36, q92, show pos ≤ s.length by omega, htk, h17, hdp, h3, hbx, hw2, hln, hm, hm', wpm, hc, ih']
        · have q36 : ¬ (s[pos].toNat : Int) = 36 := fun e => e36 (u8_eq.1 e)
          by_cases e92 : s[pos] = 92
          · have q92 : (s[pos].toNat : Int) = 92 := by rw [e92]; rfl
            have hsq : seq1 e j n (s.drop pos) = esT e j n (s.drop pos) := by unfold seq1; rw [hhead, e92, if_neg (by simp), if_pos rfl]
            have h18 := c18 e he (s.drop pos) j n hj hn
            have hpl := esT_len hsm he j n hj hn (s.drop pos)
            obtain ⟨t, m, hx⟩ : ∃ t m, esT e j n (s.drop pos) = (t, m) := ⟨_, _, rfl⟩
            rw [hx] at h18 hpl
            simp only at hpl
            rw [hx] at hsq
            by_cases hm : m = 0
            · subst hm
              have ih' := ihl (by rw [hsq])
              simp [-f9r18_run, hp, hd, hlt', eq_true q92, q36, show pos ≤ s.length by omega, htk, h18, ih']
            · obtain ⟨hpm, hX⟩ := sq t m hsq hm hpl
              have hw2 := fun Z : AO => ws_call (.box 30 15 (encE e)) Z (g + 1) (.bptr 2 0) O t rfl (by omega)
              have hln := fun Z : AO => ln_call (.box 30 15 (encE e)) (.row 5 1 (g + 1 + 1) (bs8 (O ++ t))) Z (g + 1 + 1) (O ++ t).length (.bptr 2 0)
              have hst := fun Z : AO => st_call (.box 30 15 (encE e)) Z (g + 1 + 1) (.bptr 2 0) (O ++ t)
              rw [hO] at hX
              have hm2 : 2 ≤ m := by have := seq1_le e j n (s.drop pos); rw [hsq] at this; simp only at this; omega
              have hm' : ¬ (m : Int) = 0 := by omega
              have wpm := wrap64 ((pos : Int) + (m : Int)) (by omega) (by omega)
              generalize hQ : O ++ t = Q at hw2 hln hst hX
              by_cases hc : (4096 : Int) ≤ (Q.length : Int)
              · have hres : (X e j n s).take 4096 = Q.take 4096 := by rw [hX, List.take_append_of_le_length (by omega)]
                rw [hres]
                simp [-f9r18_run, hp, hd, hlt', eq_true q92, q36, show pos ≤ s.length by omega, htk, h18, hdp, h3, hbx, hw2, hln, hst, hm, hm', wpm, hc, show 4096 ≤ Q.length by omega]
              · have ih' := fun E hE => ih (pos + 1) (g + 1 + 1) (pos + m) (.bptr 2 0) Q E (by omega) (by omega) hpm (by omega) rfl hX (fun hle => by omega) hE
                simp [-f9r18_run, hp, hd, hlt', eq_true q92, q36, show pos ≤ s.length by omega, htk, h18, hdp, h3, hbx, hw2, hln, hm, hm', wpm, hc, ih']
          · have q92 : ¬ (s[pos].toNat : Int) = 92 := fun e => e92 (u8_eq.1 e)
            have ih' := ihl (by rw [hcons]; exact seq1_plain e36 e92)
            simp [-f9r18_run, hp, hd, hlt', q36, q92, ih']
    · have hd := dec_high s pos hp (by omega)
      obtain ⟨w1, w2, w3⟩ := dec_wide s pos hp
      obtain ⟨q1, q2, hq⟩ : ∃ q1 q2, Utf8.decode ⟨s.toArray⟩ pos = (q1, q2) := ⟨_, _, rfl⟩
      rw [hq] at hd w1 w2 w3
      simp only at hd w1 w2 w3
      have hhi : ∀ i, pos ≤ i → i < pos + q2 → s.getD i 0 ≠ 36 ∧ s.getD i 0 ≠ 92 := by
        intro i hi1 hi2
        have hge : 128 ≤ (s.getD i 0).toNat := by
          by_cases e0 : i = pos
          · subst e0
            rw [show s.getD i 0 = s[i] by simp [hp]]; omega
          · exact w3 i (by omega) hi2
        constructor
        · intro e0; rw [e0] at hge; simp at hge
        · intro e0; rw [e0] at hge; simp at hge
      have ih' := fun E hE => ih (pos + q2) g d p o E (by omega) w1 h3 h4 h5 h6 (fun hle => by
        by_cases hdp : d ≤ pos
        · exact glue q2 hdp w1 (X_plain s q2 pos w1 hhi)
        · have hxp := X_plain (e := e) (j := j) (n := n) s (pos + q2 - d) d (by omega) (fun i hi1 hi2 => hhi i (by omega) (by omega))
          rw [show d + (pos + q2 - d) = pos + q2 by omega] at hxp
          exact hxp) hE
      have n92 : ¬ (q1 : Int) = 92 := by omega
      have n36 : ¬ (q1 : Int) = 36 := by omega
      by_cases hlt : (pos : Int) < (d : Int)
      · simp [-f9r18_run, hp, hq, hlt, ih']
      · simp [-f9r18_run, hp, hq, hlt, n92, n36, ih']
theorem c9 (e : En) (hsm : Sm e) (he : EnOk e) (s : List UInt8) (hs : s.length ≤ 5000) (j n : Int) (hj : I64 j) (hn : I64 n) : callW tbl 9 [encE e, .str s, .int .i64 j, .int .i64 n] = some (.str ((X e j n s).take 4096), []) := by
  rw [call_run tbl (f := 9) (fn := f9) rfl _ rfl]
  have h := t9 e hsm he s hs j n hj hn s.length 0 0 0 .nilp [] [(16, .itr 3), (1, .str s), (10, .int .i64 (0 : Nat)), (9, .bptr 2 0), (4, .bptr 0 0), (2, .int .i64 j), (3, .int .i64 n)] (by omega) (by omega) (by omega) (by simp) rfl (by simp) (by simp) rfl
  generalize (X e j n s).take 4096 = R at h ⊢
  simp [-f9r18_run, bs8] at h
  simp [-f9r18_run, f9, f9body]
  exact h
end Go.Proofs.YteinopeeicjnjaaDoor
