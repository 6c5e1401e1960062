/- Jobs: the line of a job, and News, on both sides. No condition. -/
import Derived.Test.YtpphfbfmoipoaaaDoorJo
import Derived.Test.YtpphfbfmoipoaaaDoorJl
namespace Go.Proofs.YtpphfbfmoipoaaaDoor
open Go.PI
set_option maxRecDepth 100000
set_option maxHeartbeats 8000000
set_option linter.unusedSimpArgs false
/-- the numbers and the text are small -/
abbrev SJ (j : Jb) : Prop := 0 ≤ j.num ∧ j.num ≤ 2147483647 ∧ 0 ≤ j.pgid ∧ j.pgid ≤ 2147483647 ∧ j.text.length ≤ 5000
def mkJ (l : List Jb) (i : Nat) : List UInt8 := if (i : Int) = lastS l (-1) then [43] else if (i : Int) = lastS l (lastS l (-1)) then [45] else [32]
def lnJ (l : List Jb) (i : Nat) (long : Bool) (j : Jb) : List UInt8 := [91] ++ Lib.itoa j.num ++ [93] ++ mkJ l i ++ [32] ++ (if long = true then Lib.itoa j.pgid ++ [32] else []) ++ wdJ j ++ [32, 32] ++ j.text
def lnS (l : List Jb) (i : Int) (long : Bool) : List UInt8 := if i < 0 then [] else match l[i.toNat]? with
  | none => []
  | some j => lnJ l i.toNat long j
theorem wd_len (v : Int) (h1 : 1 ≤ v) (h2 : v ≤ 20) : (wd v).length ≤ 100 := by
  have hb := Lib.itoa_length_le v (by omega) (by omega)
  unfold wd
  split <;> simp <;> omega
theorem dsc_len (n : Int) : (dsc (kdv n)).length ≤ 100 := by
  rcases kd_cases n with e | ⟨v, e, h1, h2, _⟩ | ⟨v, e, h1, h2, rfl⟩ | ⟨v, e, h1, h2, _⟩ | ⟨e, _⟩ <;> rw [e]
  · simp [dsc]
  · have hb := Lib.itoa_length_le v (by omega) (by omega)
    by_cases v0 : v = 0
    · simp [dsc, v0]
    · simp [dsc, v0]; omega
  · have := wd_len v h1 h2
    simpa [dsc] using this
  · simp [dsc]
  · simp [dsc]
theorem wdJ_len (x : Jb) : (wdJ x).length ≤ 100 := by
  unfold wdJ
  split
  · simp
  · split
    · split
      · simp
      · exact dsc_len _
    · simp
theorem mkJ_len (l : List Jb) (i : Nat) : (mkJ l i).length = 1 := by
  unfold mkJ
  split
  · rfl
  · split <;> rfl
theorem c18 (l : List Jb) (hl : l.length ≤ 1000000) (hb : ∀ j ∈ l, BJ j) (hw : ∀ j ∈ l, WJ j) (hs : ∀ j ∈ l, SJ j) (i : Int) (long : Bool) : callW tbl 18 [jl l, .int .i64 i, .bool long] = some (.str (lnS l i long), []) := by
  rw [call_run tbl (f := 18) (fn := f18) rfl _ rfl]
  unfold lnS
  by_cases h0 : i < 0
  · simp [f18, f18body, h0]
  obtain ⟨k, rfl⟩ := Int.eq_ofNat_of_zero_le (show 0 ≤ i by omega)
  by_cases hk : k < l.length
  case neg => simp [f18, f18body, h0, hk, show (l.length : Int) ≤ k by omega, show ¬ k < l.length by omega, List.getElem?_eq_none (show l.length ≤ k by omega)]
  have hg : l[k]? = some l[k] := List.getElem?_eq_getElem hk
  have hm := List.getElem_mem hk
  have e1 := c16 l hl
  have hsj := hs _ hm
  have e2 := c20 l[k].num (by omega) (by omega)
  have e3 := c20 l[k].pgid (by omega) (by omega)
  have e4 := c59 l[k] (hb _ hm) (hw _ hm)
  have b2 := Lib.itoa_length_le l[k].num (by omega) (by omega)
  have b3 := Lib.itoa_length_le l[k].pgid (by omega) (by omega)
  have b4 := wdJ_len l[k]
  have j1 : ∀ a : List UInt8, a.length ≤ 30 → callW tbl 58 [.sl 1 [.str a, .str [32]]] = some (.str (a ++ [32]), []) := by
    intro a ha
    have := c80 [a, [32]] [] (by simp) (by simp [Lib.join, List.intercalate]; omega)
    rw [call_run tbl (f := 58) (fn := f58) rfl _ rfl]
    simp [Lib.join, List.intercalate] at this
    simp [f58, f58body, this]
  have j2 : ∀ a b c d : List UInt8, ∀ t : List UInt8, a.length ≤ 30 → b.length ≤ 30 → c.length ≤ 60 → d.length ≤ 200 → t.length ≤ 5000 → callW tbl 58 [.sl 1 [.str [91], .str a, .str [93], .str b, .str [32], .str c, .str d, .str [32, 32], .str t]] = some (.str ([91] ++ a ++ [93] ++ b ++ [32] ++ c ++ d ++ [32, 32] ++ t), []) := by
    intro a b c d t ha hb hc hd ht
    have := c80 [[91], a, [93], b, [32], c, d, [32, 32], t] [] (by simp) (by simp [Lib.join, List.intercalate]; omega)
    rw [call_run tbl (f := 58) (fn := f58) rfl _ rfl]
    simp [Lib.join, List.intercalate] at this
    simp [f58, f58body, this]
  have J1 := j1 (Lib.itoa l[k].pgid) (by omega)
  simp only [Int.toNat_natCast, hg, lnJ, mkJ]
  generalize lastS l (lastS l (-1)) = pv at e1 ⊢
  generalize lastS l (-1) = cu at e1 ⊢
  have J2 := fun b c hb hc => j2 (Lib.itoa l[k].num) b c (wdJ l[k]) l[k].text (by omega) hb hc (by omega) hsj.2.2.2.2
  generalize Lib.itoa l[k].num = A at e2 J2 b2 ⊢
  generalize Lib.itoa l[k].pgid = G at e3 J1 b3 ⊢
  generalize wdJ l[k] = W at e4 J2 ⊢
  by_cases hc : (k : Int) = cu
  · subst hc
    have K1 := J2 [43] [] (by simp) (by simp)
    have K2 := J2 [43] (G ++ [32]) (by simp) (by simp; omega)
    simp at K1 K2
    cases long <;> simp [f18, f18body, h0, hk, show ¬ (l.length : Int) ≤ k by omega, e1, e2, e3, e4, J1, K1, K2]
  · by_cases hp : (k : Int) = pv
    · subst hp
      have K1 := J2 [45] [] (by simp) (by simp)
      have K2 := J2 [45] (G ++ [32]) (by simp) (by simp; omega)
      simp at K1 K2
      cases long <;> simp [f18, f18body, h0, hk, show ¬ (l.length : Int) ≤ k by omega, hc, e1, e2, e3, e4, J1, K1, K2]
    · have K1 := J2 [32] [] (by simp) (by simp)
      have K2 := J2 [32] (G ++ [32]) (by simp) (by simp; omega)
      simp at K1 K2
      cases long <;> simp [f18, f18body, h0, hk, show ¬ (l.length : Int) ≤ k by omega, hc, hp, e1, e2, e3, e4, J1, K1, K2]
theorem c19 (l : List Jb) (hl : l.length ≤ 1000000) (hb : ∀ j ∈ l, BJ j) (hs : ∀ j ∈ l, SJ j) (i : Int) (long : Bool) : callW tbl 19 [jl l, .int .i64 i, .bool long] = some (.str (lnS l i long), []) := by
  rw [call_run tbl (f := 19) (fn := f19) rfl _ rfl]
  unfold lnS
  by_cases h0 : i < 0
  · simp [f19, f19body, h0]
  obtain ⟨k, rfl⟩ := Int.eq_ofNat_of_zero_le (show 0 ≤ i by omega)
  by_cases hk : k < l.length
  case neg => simp [f19, f19body, h0, hk, show (l.length : Int) ≤ k by omega, show ¬ k < l.length by omega, List.getElem?_eq_none (show l.length ≤ k by omega)]
  have hg : l[k]? = some l[k] := List.getElem?_eq_getElem hk
  have hm := List.getElem_mem hk
  have e1 := c17 l hl
  have hsj := hs _ hm
  have e2 := c20 l[k].num (by omega) (by omega)
  have e3 := c20 l[k].pgid (by omega) (by omega)
  have e4 := c60 l[k] (hb _ hm)
  have b2 := Lib.itoa_length_le l[k].num (by omega) (by omega)
  have b3 := Lib.itoa_length_le l[k].pgid (by omega) (by omega)
  have b4 := wdJ_len l[k]
  have b5 := hsj.2.2.2.2
  simp only [Int.toNat_natCast, hg, lnJ, mkJ]
  generalize lastS l (lastS l (-1)) = pv at e1 ⊢
  generalize lastS l (-1) = cu at e1 ⊢
  generalize Lib.itoa l[k].num = A at e2 b2 ⊢
  generalize Lib.itoa l[k].pgid = G at e3 b3 ⊢
  generalize wdJ l[k] = W at e4 b4 ⊢
  have mstr : ∀ n : Nat, n ≤ 100000 → n ≤ maxStr := by intro n h; unfold maxStr; omega
  by_cases hc : (k : Int) = cu
  · subst hc
    cases long <;> simp [f19, f19body, h0, hk, show ¬ (l.length : Int) ≤ k by omega, e1, e2, e3, e4]
    all_goals (unfold maxStr; omega)
  · by_cases hp : (k : Int) = pv
    · subst hp
      cases long <;> simp [f19, f19body, h0, hk, show ¬ (l.length : Int) ≤ k by omega, hc, e1, e2, e3, e4] <;> (unfold maxStr; omega)
    · cases long <;> simp [f19, f19body, h0, hk, show ¬ (l.length : Int) ≤ k by omega, hc, hp, e1, e2, e3, e4] <;> (unfold maxStr; omega)
end Go.Proofs.YtpphfbfmoipoaaaDoor
