/- Prompts: the reference's parameter. No condition. -/
import Derived.Test.YteinopeeicjnjaaDoorRd
namespace Go.Proofs.YteinopeeicjnjaaDoor
open Go.PI
set_option maxRecDepth 100000
set_option maxHeartbeats 8000000
set_option linter.unusedSimpArgs false
theorem wE_drop (s : List UInt8) (i k : Nat) : wE s (i + k) = i + wE (s.drop i) k := by
  unfold wE
  rw [List.drop_drop]
  omega
theorem spc_okc {b : UInt8} (h : spc b = true) : okc b = false := by
  simp only [spc, decide_eq_true_eq, List.mem_cons, List.not_mem_nil, or_false] at h
  rcases h with rfl | rfl | rfl | rfl | rfl | rfl | rfl <;> rfl
theorem getD_drop (s : List UInt8) (i k : Nat) : (s.drop i).getD k 0 = s.getD (i + k) 0 := by
  simp [List.getD_eq_getElem?_getD, List.getElem?_drop]
def prR (s : List UInt8) (i : Nat) : List UInt8 × Nat := match prm (s.drop i) with
  | none => ([], i)
  | some (n, k) => (n, i + k)
theorem c23 (s : List UInt8) (hs : s.length ≤ 10000) (i : Nat) (hi : i < s.length) : callW tbl 23 [.str s, .int .i64 i] = some (.tup [.str (prR s i).1, .int .i64 (prR s i).2], []) := by
  rw [call_run tbl (f := 23) (fn := f23) rfl _ rfl]
  have w1 := wrapS i (by omega)
  have w2 := wrap64 ((i : Int) + 2) (by omega) (by omega)
  have w3 := wrap64 ((i : Int) + 3) (by omega) (by omega)
  rw [Int.natCast_succ] at w1
  unfold prR prm
  have hrl : (s.drop i).length = s.length - i := by simp
  by_cases h1 : (s.drop i).length < 2
  · have h1' : (s.length : Int) ≤ (i : Int) + 1 := by omega
    rw [if_pos h1]
    simp [f23, f23body, w1, h1']
  · have h1' : ¬ (s.length : Int) ≤ (i : Int) + 1 := by omega
    have hl1 : i + 1 < s.length := by omega
    have z1 : (0 : Int) ≤ (i : Int) + 1 := by omega
    have zz : (0 : Int) ≤ (i : Int) + 2 := by omega
    have tt : ((i : Int) + 2).toNat = i + 2 := by omega
    have ll : i + 2 ≤ s.length := by omega
    have mm : i + 2 - (i + 1) = 1 := by omega
    have z1' : (i : Int) + 1 < s.length := by omega
    have hg : (s.drop i).getD 1 0 = s[i + 1] := by rw [getD_drop]; simp [hl1]
    rw [if_neg h1, hg]
    have h34 := c34 s[i + 1].toNat
    have h35 := c35 s[i + 1]
    have h36 := c36 s[i + 1]
    have hsl : ∀ (a t : Nat), a ≤ t → ((s.drop i).drop a).take (t - a) = (s.drop (i + a)).take ((i + t) - (i + a)) := fun a t hat => by rw [List.drop_drop]; congr 1; omega
    by_cases hb : s[i + 1] = 123
    · rw [if_pos hb]
      have hb' : (s[i + 1].toNat : Int) = 123 := by rw [hb]; rfl
      have d0 : dgB s[i + 1].toNat = false := by rw [hb]; rfl
      have s0 : spc s[i + 1] = false := by rw [hb]; rfl
      have o0 : okc s[i + 1] = false := by rw [hb]; rfl
      rw [d0] at h34
      rw [s0] at h35
      rw [o0] at h36
      unfold brc
      by_cases h2 : s.length ≤ i + 2
      · have h2' : (s.length : Int) ≤ (i : Int) + 2 := by omega
        have e2 : wE (s.drop i) 2 = 2 := wE_end (by omega)
        rw [e2, if_neg (show ¬ (2 = 2 ∧ 2 < (s.drop i).length ∧ spc ((s.drop i).getD 2 0) = true) by omega)]
        simp [f23, f23body, w1, w2, h1', hl1, z1, z1', h34, h35, h36, eq_true hb', h2']
      · have h2' : ¬ (s.length : Int) ≤ (i : Int) + 2 := by omega
        have hl2 : i + 2 < s.length := by omega
        have z2 : (0 : Int) ≤ (i : Int) + 2 := by omega
        have z2' : (i : Int) + 2 < s.length := by omega
        have hg2 : (s.drop i).getD 2 0 = s[i + 2] := by rw [getD_drop]; simp [hl2]
        rw [hg2]
        have h35b := c35 s[i + 2]
        have h37 := c37 s (by omega) (i + 2) (by omega)
        rw [wE_drop] at h37
        have hge := wE_ge (s.drop i) 2
        have hle := wE_le (l := s.drop i) (i := 2) (by omega)
        have eT : (if wE (s.drop i) 2 = 2 ∧ 2 < (s.drop i).length ∧ spc s[i + 2] = true then 3 else wE (s.drop i) 2) = if spc s[i + 2] = true then 3 else wE (s.drop i) 2 := by
          cases hq : spc s[i + 2]
          · simp
          · have : wE (s.drop i) 2 = 2 := by
              have hl : 2 < (s.drop i).length := by omega
              rw [wE_step hl, if_neg]
              have : (s.drop i)[2] = s[i + 2] := by simp
              rw [this, spc_okc hq]; simp
            rw [if_pos ⟨this, by omega, rfl⟩, if_pos rfl]
        rw [eT]
        -- the last part
        have last : ∀ (t : Nat) (E : Env), (E = [(8, .int .i64 ((i + t : Nat) : Int)), (0, .str s), (1, .int .i64 i)] ∨ ∃ q, E = [(63, q), (8, .int .i64 ((i + t : Nat) : Int)), (0, .str s), (1, .int .i64 i)]) → 2 ≤ t → i + t ≤ s.length →
            run tbl (.cl [.tmp 4, .tmp 5]) [.seq (.cond (.t 81) (.seq f23r15 .ret) .skip), .seq (.seq f23r16 .ret)] f23r14 E [] = some (.tup [.str (if t = 2 ∨ s.length ≤ i + t ∨ s.getD (i + t) 0 ≠ 125 then [] else (s.drop (i + 2)).take ((i + t) - (i + 2))), .int .i64 (if t = 2 ∨ s.length ≤ i + t ∨ s.getD (i + t) 0 ≠ 125 then i else i + (t + 1) : Nat)], []) := by
          intro t E hE ht1 ht2
          have q1 : ((i + t : Nat) : Int) = (i : Int) + 2 ↔ t = 2 := by omega
          have q2 : (s.length : Int) ≤ ((i + t : Nat) : Int) ↔ s.length ≤ i + t := by omega
          by_cases e1 : t = 2
          · subst e1
            rcases hE with rfl | ⟨q, rfl⟩ <;> simp [w2]
          · have e1' : ¬ (i : Int) + (t : Int) = (i : Int) + 2 := by omega
            by_cases e2 : s.length ≤ i + t
            · have e2' : (s.length : Int) ≤ (i : Int) + (t : Int) := by omega
              rcases hE with rfl | ⟨q, rfl⟩ <;> simp [w2, e1, e1', e2, e2']
            · have e2' : ¬ (s.length : Int) ≤ (i : Int) + (t : Int) := by omega
              have e3 : i + t < s.length := by omega
              have hgt : s.getD (i + t) 0 = s[i + t] := by simp [e3]
              rw [hgt]
              have p1 : (0 : Int) ≤ (i : Int) + (t : Int) := by omega
              have p2 : ((i : Int) + (t : Int)).toNat = i + t := by omega
              have p3 : IntKind.i64.wrap ((i : Int) + (t : Int) + 1) = (i : Int) + ((t : Int) + 1) := by rw [wrap64 ((i : Int) + (t : Int) + 1) (by omega) (by omega)]; omega
              by_cases e4 : s[i + t] = 125
              · have e5 : (s[i + t].toNat : Int) = 125 := by rw [e4]; rfl
                rcases hE with rfl | ⟨q, rfl⟩ <;> simp [w2, e1, e1', e2, e2', e3, e4, eq_true e5, p1, p2, p3, zz, tt, ht1, ht2]
              · have e5 : ¬ (s[i + t].toNat : Int) = 125 := fun e => e4 (u8_eq.1 e)
                rcases hE with rfl | ⟨q, rfl⟩ <;> simp [w2, e1, e1', e2, e2', e3, e4, e5, p1, p2]
        have fin : ∀ t, 2 ≤ t → i + t ≤ s.length → (match (if (if t = 2 ∨ (s.drop i).length ≤ t ∨ (s.drop i).getD t 0 ≠ 125 then 0 else t) = 0 then none else some (((s.drop i).drop 2).take ((if t = 2 ∨ (s.drop i).length ≤ t ∨ (s.drop i).getD t 0 ≠ 125 then 0 else t) - 2), (if t = 2 ∨ (s.drop i).length ≤ t ∨ (s.drop i).getD t 0 ≠ 125 then 0 else t) + 1) : Option (List UInt8 × Nat)) with
            | none => (([], i) : List UInt8 × Nat)
            | some (n, k) => (n, i + k)) = (if t = 2 ∨ s.length ≤ i + t ∨ s.getD (i + t) 0 ≠ 125 then [] else (s.drop (i + 2)).take ((i + t) - (i + 2)), if t = 2 ∨ s.length ≤ i + t ∨ s.getD (i + t) 0 ≠ 125 then i else i + (t + 1)) := by
          intro t ht1 ht2
          rw [getD_drop]
          by_cases c : t = 2 ∨ s.length ≤ i + t ∨ s.getD (i + t) 0 ≠ 125
          · have c' : t = 2 ∨ (s.drop i).length ≤ t ∨ s.getD (i + t) 0 ≠ 125 := by
              rcases c with c | c | c
              · exact .inl c
              · exact .inr (.inl (by omega))
              · exact .inr (.inr c)
            simp only [if_pos c, if_pos c', if_true]
          · have c' : ¬ (t = 2 ∨ (s.drop i).length ≤ t ∨ s.getD (i + t) 0 ≠ 125) := by
              rintro (h | h | h)
              · exact c (.inl h)
              · exact c (.inr (.inl (by omega)))
              · exact c (.inr (.inr h))
            simp only [if_neg c, if_neg c']
            rw [if_neg (by omega)]
            simp only [hsl 2 t ht1]
        cases hq : spc s[i + 2]
        · rw [hq] at h35b
          simp only [Bool.false_eq_true, if_false]
          generalize wE (s.drop i) 2 = t at h37 hge hle ⊢
          have hf := fin t hge (by omega)
          rw [hf]
          have hl := fun E hE => last t E hE hge (by omega)
          simp [-f23r14_run] at h37
          simp [-f23r14_run, f23, f23body, w1, w2, h1', hl1, z1, z1', h34, h35, h36, eq_true hb', h2', hl2, z2, z2', h37, tt, h35b]
          simpa [-f23r14_run] using hl _ (.inr ⟨.bool false, rfl⟩)
        · rw [hq] at h35b
          simp only [if_true]
          have hf := fin 3 (by omega) (by omega)
          rw [hf]
          have hl := fun E hE => last 3 E hE (by omega) (by omega)
          simp [-f23r14_run] at h37
          simp [-f23r14_run, f23, f23body, w1, w2, w3, h1', hl1, z1, z1', h34, h35, h36, eq_true hb', h2', hl2, z2, z2', h37, tt, h35b]
          simpa [-f23r14_run] using hl _ (.inl rfl)
    · rw [if_neg hb]
      have hb' : ¬ (s[i + 1].toNat : Int) = 123 := fun e => hb (u8_eq.1 e)
      have c2 : ((s.drop i).drop 1).take 1 = (s.drop (i + 1)).take 1 := by rw [List.drop_drop]
      have k2 : ((i : Int) + 2).toNat - ((i : Int) + 1).toNat = 1 := by omega
      cases hd : dgB s[i + 1].toNat
      · rw [hd] at h34
        cases hs0 : spc s[i + 1]
        · rw [hs0] at h35
          simp only [Bool.or_false, Bool.false_eq_true, if_false]
          cases ho : okc s[i + 1]
          · rw [ho] at h36
            simp [f23, f23body, w1, w2, h1', hl1, z1, z1', h34, h35, h36, hb']
          · rw [ho] at h36
            have h37 := c37 s (by omega) (i + 1) (by omega)
            rw [wE_drop] at h37
            have hge := wE_ge (s.drop i) 1
            have hle := wE_le (l := s.drop i) (i := 1) (by omega)
            generalize wE (s.drop i) 1 = t at h37 hge hle ⊢
            have hh := hsl 1 t hge
            simp only [Int.natCast_succ] at h37
            simp only [if_true, hh]
            have y1 : ((i : Int) + 1) ≤ ((i + t : Nat) : Int) := by omega
            have y2 : i + t ≤ s.length := by omega
            simp [f23, f23body, w1, w2, h1', hl1, z1, z1', h34, h35, h36, hb', h37, y2, show (0 : Int) ≤ (i : Int) + (t : Int) by omega, show ((i : Int) + (t : Int)).toNat = i + t by omega, hge]
        · rw [hs0] at h35
          simp [-List.drop_one, f23, f23body, w1, w2, h1', hl1, z1, z1', h34, h35, c2, zz, tt, ll, mm]
      · rw [hd] at h34
        simp [-List.drop_one, f23, f23body, w1, w2, h1', hl1, z1, z1', h34, c2, zz, tt, ll, mm]
end Go.Proofs.YteinopeeicjnjaaDoor
