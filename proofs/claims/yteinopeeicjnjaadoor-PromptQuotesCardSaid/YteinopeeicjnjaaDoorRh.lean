/- Prompts: what the reference's Expand computes. No condition. -/
import Derived.Test.YteinopeeicjnjaaDoorRg
namespace Go.Proofs.YteinopeeicjnjaaDoor
open Go.PI
set_option maxRecDepth 100000
set_option maxHeartbeats 8000000
set_option linter.unusedSimpArgs false
abbrev stdR (s : List UInt8) (j n : Int) (o : List UInt8) (i : Nat) : Env := [(9, .str o), (10, .int .i64 i), (2, .int .i64 j), (3, .int .i64 n), (4, .bptr 0 0), (1, .str s)]
abbrev KR : List Fr := [.blk 0, .seq ((f10r14.seq (.cond (.t 82) f10r15 .skip)).seq (f10r16.seq .ret))]
theorem t10e (e : En) (s : List UInt8) (j n : Int) (o : List UInt8) (i : Nat) (q : AV) : run tbl (.cl [.tmp 8]) [.seq (.cond (.t 82) f10r15 .skip), .seq (f10r16.seq .ret)] f10r14 ((23, q) :: stdR s j n o i) [.box 30 15 (encE e)] = some (.str (o.take 4096), []) := by
  by_cases hc : (4096 : Int) < (o.length : Int)
  · simp [hc, show 4096 ≤ o.length by omega]
  · have e1 : o.take 4096 = o := List.take_of_length_le (by omega)
    simp [hc, e1]
theorem t10 (e : En) (hsm : Sm e) (he : EnOk e) (s : List UInt8) (hs : s.length ≤ 5000) (j n : Int) (hj : I64 j) (hn : I64 n) : ∀ (k i : Nat) (o : List UInt8) (E : Env), s.length ≤ i + k → i ≤ s.length → o.length ≤ 1100000000 →
    X e j n s = o ++ X e j n (s.drop i) → scrub [9, 10, 2, 3, 4, 1] E = stdR s j n o i →
    run tbl (.cl [.tmp 8]) KR (.loop [9, 10, 2, 3, 4, 1] f10b13) E [.box 30 15 (encE e)] = some (.str ((X e j n s).take 4096), []) := by
  have fin : ∀ (i : Nat) (o : List UInt8) (E : Env), i ≤ s.length → X e j n s = o ++ X e j n (s.drop i) → (i = s.length ∨ 4096 < o.length) → scrub [9, 10, 2, 3, 4, 1] E = stdR s j n o i →
      run tbl (.cl [.tmp 8]) KR (.loop [9, 10, 2, 3, 4, 1] f10b13) E [.box 30 15 (encE e)] = some (.str ((X e j n s).take 4096), []) := by
    intro i o E hi hX hc hE
    rw [run_loop_scrub _ _ _ _ _ _ _ (by rw [hE]; rfl), hE, run_loopD _ _ f10b13_eq]
    have hres : (X e j n s).take 4096 = o.take 4096 := by
      rcases hc with rfl | hc
      · rw [hX, List.drop_length, X_nil, List.append_nil]
      · rw [hX, List.take_append_of_le_length (by omega)]
    rw [hres]
    have hend := t10e e s j n o i (.bool false)
    by_cases hl : i < s.length
    · have hl' : (i : Int) < (s.length : Int) := by omega
      have ho : ¬ (o.length : Int) ≤ 4096 := by omega
      simp [-f10r14_run, hl', ho]
      exact hend
    · have hl' : ¬ (i : Int) < (s.length : Int) := by omega
      simp [-f10r14_run, hl']
      exact hend
  intro k
  induction k with
  | zero =>
    intro i o E h1 h2 h3 h4 hE
    exact fin i o E h2 h4 (.inl (by omega)) hE
  | succ k ih =>
    intro i o E h1 h2 h3 h4 hE
    by_cases hlast : i = s.length ∨ 4096 < o.length
    · exact fin i o E h2 h4 hlast hE
    have hi : i < s.length := by omega
    have ho : (o.length : Int) ≤ 4096 := by omega
    have hi' : (i : Int) < (s.length : Int) := by omega
    rw [run_loop_scrub _ _ _ _ _ _ _ (by rw [hE]; rfl), hE, run_loopD _ _ f10b13_eq]
    have hcons : s.drop i = s[i] :: s.drop (i + 1) := drop_step hi
    have hhead : (s.drop i).head? = some s[i] := by rw [hcons]; rfl
    have w1 := wrapS i (by omega)
    rw [Int.natCast_succ] at w1
    have w2 := wrap64 ((i : Int) + 2) (by omega) (by omega)
    have htk : (s.drop i).take 1 = [s[i]] := by rw [hcons]; rfl
    have z1 : (0 : Int) ≤ (i : Int) + 1 := by omega
    have t1 : ((i : Int) + 1).toNat = i + 1 := by omega
    have m1 : o.length + 1 ≤ maxStr := by unfold maxStr; omega
    -- a byte as it is
    have ihl : (seq1 e j n (s.drop i)).2 = 0 → ∀ E, scrub [9, 10, 2, 3, 4, 1] E = stdR s j n (o ++ [s[i]]) (i + 1) → run tbl (.cl [.tmp 8]) KR (.loop [9, 10, 2, 3, 4, 1] f10b13) E [.box 30 15 (encE e)] = some (.str ((X e j n s).take 4096), []) := by
      intro h0 E hE
      refine ih (i + 1) (o ++ [s[i]]) E (by omega) (by omega) (by simp; omega) ?_ hE
      rw [h4, hcons, X_lit (by rw [← hcons]; exact h0)]; simp
    have sq : ∀ (t : List UInt8) (m : Nat), seq1 e j n (s.drop i) = (t, m) → m ≠ 0 → t.length ≤ 1000000000 → i + m ≤ s.length ∧ o.length + t.length ≤ maxStr ∧
        ∀ E, scrub [9, 10, 2, 3, 4, 1] E = stdR s j n (o ++ t) (i + m) → run tbl (.cl [.tmp 8]) KR (.loop [9, 10, 2, 3, 4, 1] f10b13) E [.box 30 15 (encE e)] = some (.str ((X e j n s).take 4096), []) := by
      intro t m hq hm ht
      have hle := seq1_le e j n (s.drop i)
      have hx := X_seq (e := e) (j := j) (n := n) (l := s.drop i) (by rw [hq]; exact hm)
      rw [hq] at hle hx
      simp only [List.length_drop] at hle
      refine ⟨by omega, by unfold maxStr; omega, fun E hE => ih (i + m) (o ++ t) E (by omega) (by omega) (by simp; omega) ?_ hE⟩
      rw [h4, hx, List.drop_drop]
      simp [List.append_assoc]
    by_cases e92 : s[i] = 92
    · have q92 : (s[i].toNat : Int) = 92 := by rw [e92]; rfl
      have q36 : ¬ (s[i].toNat : Int) = 36 := by omega
      have hsq : seq1 e j n (s.drop i) = esT e j n (s.drop i) := by unfold seq1; rw [hhead, e92, if_neg (by simp), if_pos rfl]
      by_cases hl1 : i + 1 < s.length
      · have hl1' : (i : Int) + 1 < (s.length : Int) := by omega
        have hg : (s.drop i).getD 1 0 = s[i + 1] := by rw [getD_drop]; simp [hl1]
        have h22 := c22 e he s[i + 1] j n hj hn
        have hes : esT e j n (s.drop i) = match esc e j n s[i + 1] with | none => ([], 0) | some t => (t, 2) := by
          unfold esT
          rw [if_neg (by simp; omega), hg]
          cases esc e j n s[i + 1] <;> rfl
        have hln := esT_len hsm he j n hj hn (s.drop i)
        cases hq : esc e j n s[i + 1] with
        | none =>
          rw [hq] at hes h22
          have ih' := ihl (by rw [hsq, hes])
          simp only [esO] at h22
          simp [-f10r14_run, hi, hi', ho, eq_true q92, q36, w1, z1, t1, hl1, hl1', h22, htk, m1, ih', show i + 1 ≤ s.length by omega]
        | some t =>
          rw [hq] at hes h22
          rw [hes] at hln hsq
          obtain ⟨_, hmx, ih'⟩ := sq t 2 hsq (by omega) hln
          simp only [esO] at h22
          simp [-f10r14_run, hi, hi', ho, eq_true q92, q36, w1, w2, z1, t1, hl1, hl1', h22, hmx, ih']
      · have hl1' : ¬ (i : Int) + 1 < (s.length : Int) := by omega
        have ih' := ihl (by rw [hsq]; unfold esT; rw [if_pos (by simp; omega)])
        simp [-f10r14_run, hi, hi', ho, eq_true q92, q36, w1, z1, t1, hl1', htk, m1, ih', show i + 1 ≤ s.length by omega]
    · have q92 : ¬ (s[i].toNat : Int) = 92 := fun e => e92 (u8_eq.1 e)
      by_cases e36 : s[i] = 36
      · have q36 : (s[i].toNat : Int) = 36 := by rw [e36]; rfl
        have hsq : seq1 e j n (s.drop i) = prT e (s.drop i) := by unfold seq1; rw [hhead, e36, if_pos rfl]
        have h23 := c23 s (by omega) i hi
        unfold prR at h23
        unfold prT at hsq
        cases hq : prm (s.drop i) with
        | none =>
          rw [hq] at h23 hsq
          have ih' := ihl (by rw [hsq])
          simp [-f10r14_run, hi, hi', ho, q92, eq_true q36, w1, z1, t1, h23, htk, m1, ih', show i + 1 ≤ s.length by omega]
        | some x =>
          obtain ⟨nm, m⟩ := x
          rw [hq] at h23 hsq
          have hpm := prm_some hq
          have h24 := c24 e he nm
          have hln := va_len hsm he nm
          obtain ⟨hle, hmx, ih'⟩ := sq _ m hsq (by omega) hln
          have hgt : (0 : Int) < (m : Int) := by omega
          simp [-f10r14_run, hi, hi', ho, q92, eq_true q36, w1, h23, h24, hmx, hgt, ih', show 0 < m by omega, show (i : Int) < (i : Int) + (m : Int) by omega]
      · have q36 : ¬ (s[i].toNat : Int) = 36 := fun e => e36 (u8_eq.1 e)
        have ih' := ihl (by rw [hcons]; exact seq1_plain e36 e92)
        simp [-f10r14_run, hi, hi', ho, q92, q36, w1, z1, t1, htk, m1, ih', show i + 1 ≤ s.length by omega]
theorem c10 (e : En) (hsm : Sm e) (he : EnOk e) (s : List UInt8) (hs : s.length ≤ 5000) (j n : Int) (hj : I64 j) (hn : I64 n) : callW tbl 10 [encE e, .str s, .int .i64 j, .int .i64 n] = some (.str ((X e j n s).take 4096), []) := by
  rw [call_run tbl (f := 10) (fn := f10) rfl _ rfl]
  have h := t10 e hsm he s hs j n hj hn s.length 0 [] (stdR s j n [] 0) (by omega) (by omega) (by simp) (by simp) rfl
  generalize (X e j n s).take 4096 = R at h ⊢
  simp [-f10r14_run, f10, f10body]
  exact h
end Go.Proofs.YteinopeeicjnjaaDoor
