/- Jobs: kinds of wait statuses, the place of a process, the state of a job, in any table of this program's functions. No condition. -/
import Derived.Test.YtpphfbfmoipoaaaDoorJa
namespace Go.Proofs.YtpphfbfmoipoaaaDoor
open Go.PI
set_option maxRecDepth 100000
set_option maxHeartbeats 8000000
set_option linter.unusedSimpArgs false
def kdv (n : Int) : Int × Int := if n < 0 ∨ 768 < n then (-1, 0) else if (n / 256 = 1 ∨ n / 256 = 2) ∧ (n % 256 < 1 ∨ 20 < n % 256) then (-1, 0) else (n / 256, n % 256)
abbrev kd (n : Int) : Int := (kdv n).1
theorem kd_cases (n : Int) : kdv n = (-1, 0) ∨ (∃ v, kdv n = (0, v) ∧ 0 ≤ v ∧ v < 256 ∧ n = v) ∨ (∃ v, kdv n = (1, v) ∧ 1 ≤ v ∧ v ≤ 20 ∧ n = 256 + v) ∨ (∃ v, kdv n = (2, v) ∧ 1 ≤ v ∧ v ≤ 20 ∧ n = 512 + v) ∨ (kdv n = (3, 0) ∧ n = 768) := by
  unfold kdv
  split
  · exact .inl rfl
  · split
    · exact .inl rfl
    · by_cases k0 : n / 256 = 0
      · exact .inr (.inl ⟨n % 256, by rw [k0], by omega, by omega, by omega⟩)
      · by_cases k1 : n / 256 = 1
        · exact .inr (.inr (.inl ⟨n % 256, by rw [k1], by omega, by omega, by omega⟩))
        · by_cases k2 : n / 256 = 2
          · exact .inr (.inr (.inr (.inl ⟨n % 256, by rw [k2], by omega, by omega, by omega⟩)))
          · exact .inr (.inr (.inr (.inr ⟨by rw [show n = 768 by omega]; rfl, by omega⟩)))
abbrev mx : Int := 9223372036854775807
section
variable {T : TB} (hT : T.fn = tbl0F)
theorem c62g (hT : T.fn = tbl0F) (n : Int) (hn : n ≤ mx) : callW T 62 [.int .i64 n] = some (.tup [.int .i64 (kdv n).1, .int .i64 (kdv n).2], []) := by
  rw [call_run T (f := 62) (fn := f62) (by rw [hT]; rfl) _ rfl]
  unfold kdv
  unfold mx at hn
  by_cases h0 : n < 0
  · simp [f62, f62body, h0]
  · have e1 : n.tdiv 256 = n / 256 := Int.tdiv_eq_ediv_of_nonneg (by omega)
    have e2 : n.tmod 256 = n % 256 := Int.tmod_eq_emod_of_nonneg (by omega)
    have w1 := wrap64 (n / 256) (by omega) (by omega)
    by_cases k0 : n / 256 = 0
    · rw [if_neg (by omega), if_neg (by omega)]
      simp [f62, f62body, h0, e1, e2, w1, k0]
    by_cases k1 : n / 256 = 1
    · rw [if_neg (by omega)]
      by_cases v1 : 1 ≤ n % 256
      · by_cases v2 : n % 256 ≤ 20
        · rw [if_neg (by omega)]
          simp [f62, f62body, h0, e1, e2, w1, k1, v1, v2]
        · rw [if_pos (by omega)]
          simp [f62, f62body, h0, e1, e2, w1, k1, v1, v2]
      · rw [if_pos (by omega)]
        simp [f62, f62body, h0, e1, e2, w1, k1, v1]
    by_cases k2 : n / 256 = 2
    · rw [if_neg (by omega)]
      by_cases v1 : 1 ≤ n % 256
      · by_cases v2 : n % 256 ≤ 20
        · rw [if_neg (by omega)]
          simp [f62, f62body, h0, e1, e2, w1, k2, v1, v2]
        · rw [if_pos (by omega)]
          simp [f62, f62body, h0, e1, e2, w1, k2, v1, v2]
      · rw [if_pos (by omega)]
        simp [f62, f62body, h0, e1, e2, w1, k2, v1]
    by_cases k3 : n / 256 = 3
    · by_cases v0 : n % 256 = 0
      · rw [if_neg (by omega), if_neg (by omega)]
        simp [f62, f62body, h0, e1, e2, w1, k3, v0]
      · rw [if_pos (by omega)]
        simp [f62, f62body, h0, e1, e2, w1, k3, v0]
    · rw [if_pos (by omega)]
      simp [f62, f62body, h0, e1, e2, w1, k0, k1, k2, k3]
theorem c63g (hT : T.fn = tbl0F) : callW T 63 [] = some (.int .i64 768, []) := by
  rw [call_run T (f := 63) (fn := f63) (by rw [hT]; rfl) _ rfl]
  simp [f63, f63body]
/-- the first place of a number -/
def ixN (p : Int) : List Int → Nat → Option Nat
  | [], _ => none
  | x :: r, i => if p = x then some i else ixN p r (i + 1)
def oi : Option Nat → Int
  | none => -1
  | some n => n
theorem t72g (n : Int) (l : List Int) (hl : l.length ≤ 1000000) : ∀ (k i : Nat), i + k = l.length → run T (.cl [.tmp 4]) [.blk 0, .seq (f72r8.seq .ret)] (.loop [7, 1, 0, 8] f72b7) [(7, .int .i64 l.length), (1, .int .i64 n), (0, il l), (8, .int .i64 i)] [] = some (.int .i64 (oi (ixN n (l.drop i) i)), [])
  | 0, i, h => by
    rw [run_loopD _ _ f72b7_eq]
    simp [show i = l.length by omega, ixN, oi]
  | k + 1, i, h => by
    have hi : i < l.length := by omega
    have ih := t72g n l hl k (i + 1) (by omega)
    rw [Int.natCast_succ] at ih
    have ws := wrapS i (by omega)
    rw [run_loopD _ _ f72b7_eq, drop_step hi]
    by_cases h1 : n = l[i]
    · simp [hi, h1, ixN, oi, -List.getElem_cons_drop, -List.map_drop]
    · simp [hi, h1, ixN, ws, ih, -List.getElem_cons_drop, -List.map_drop]
theorem c72g (hT : T.fn = tbl0F) (n : Int) (l : List Int) (hl : l.length ≤ 1000000) : callW T 72 [il l, .int .i64 n] = some (.int .i64 (oi (ixN n l 0)), []) := by
  rw [call_run T (f := 72) (fn := f72) (by rw [hT]; rfl) _ rfl]
  have h := t72g (T := T) n l hl l.length 0 (by omega)
  simp at h
  simp [f72, f72body, h]
/-- the place of a process: its job, and where in it -/
def memO (p : Int) : List Jb → Nat → Option (Nat × Nat)
  | [], _ => none
  | j :: r, i => match ixN p j.pids 0 with
    | some a => if a < j.stats.length then some (i, a) else memO p r (i + 1)
    | none => memO p r (i + 1)
abbrev BJ (j : Jb) : Prop := j.pids.length ≤ 1000000 ∧ j.stats.length ≤ 1000000
abbrev o1 (x : Option (Nat × Nat)) : Int := oi (x.map (·.1))
abbrev o2 (x : Option (Nat × Nat)) : Int := oi (x.map (·.2))
theorem ixN_lt {p : Int} : ∀ {l : List Int} {i a : Nat}, ixN p l i = some a → i ≤ a ∧ a < i + l.length
  | [], i, a, h => by simp [ixN] at h
  | x :: r, i, a, h => by
    simp only [ixN] at h
    split at h
    · injection h with h; subst h; simp
    · have := ixN_lt h; simp only [List.length_cons]; omega
theorem t34g (hT : T.fn = tbl0F) (p : Int) (l : List Jb) (hl : l.length ≤ 1000000) (hb : ∀ j ∈ l, BJ j) : ∀ (k i : Nat) (H : List AO), i + k = l.length → run T (.cl [.tmp 4, .tmp 5]) [.blk 0, .seq (f34r9.seq .ret)] (.loop [10, 9, 1, 11] f34b8) [(10, .int .i64 l.length), (9, jl l), (1, .int .i64 p), (11, .int .i64 i)] H = some (.tup [.int .i64 (o1 (memO p (l.drop i) i)), .int .i64 (o2 (memO p (l.drop i) i))], [])
  | 0, i, H, h => by
    rw [run_loopD _ _ f34b8_eq]
    simp [show i = l.length by omega, memO, o1, o2, oi]
  | k + 1, i, H, h => by
    have hi : i < l.length := by omega
    have ih := fun H => t34g hT p l hl hb k (i + 1) H (by omega)
    simp only [Int.natCast_succ] at ih
    have ws := wrapS i (by omega)
    have hj := hb l[i] (List.getElem_mem hi)
    have h72 := c72g hT p l[i].pids hj.1
    rw [run_loopD _ _ f34b8_eq, drop_step hi]
    cases hx : ixN p l[i].pids 0 with
    | none =>
      rw [hx] at h72
      simp only [oi] at h72
      simp [hi, memO, hx, ws, ih, h72, -List.getElem_cons_drop, -List.map_drop]
    | some a =>
      rw [hx] at h72
      simp only [oi] at h72
      have ha := (ixN_lt hx).2
      by_cases h1 : a < l[i].stats.length
      · simp [hi, memO, hx, h1, h72, o1, o2, oi, -List.getElem_cons_drop, -List.map_drop]
      · simp [hi, memO, hx, h1, ws, ih, h72, oi, -List.getElem_cons_drop, -List.map_drop]
theorem c34g (hT : T.fn = tbl0F) (p : Int) (l : List Jb) (hl : l.length ≤ 1000000) (hb : ∀ j ∈ l, BJ j) : callW T 34 [jl l, .int .i64 p] = some (.tup [.int .i64 (o1 (memO p l 0)), .int .i64 (o2 (memO p l 0))], []) := by
  rw [call_run T (f := 34) (fn := f34) (by rw [hT]; rfl) _ rfl]
  have h := t34g hT p l hl hb l.length 0 [] (by omega)
  simp at h
  simp [f34, f34body, h]
/-- the state of a job with these wait statuses -/
def stL : List Int → Bool → Int
  | [], s => if s = true then 2 else 3
  | n :: r, s => if kd n = 0 ∨ kd n = 1 then stL r s else if kd n = 2 then stL r true else 1
theorem t64g (hT : T.fn = tbl0F) (l : List Int) (hl : l.length ≤ 1000000) (hb : ∀ n ∈ l, n ≤ mx) : ∀ (k i : Nat) (s : Bool), i + k = l.length → run T (.cl [.tmp 2]) [.blk 0, .seq ((f64r14.seq (.cond (.t 26) (f64r15.seq .ret) .skip)).seq (f64r16.seq .ret))] (.loop [10, 9, 3, 8] f64b13) [(10, .int .i64 i), (9, .int .i64 l.length), (3, .bool s), (8, il l)] [] = some (.int .i64 (stL (l.drop i) s), [])
  | 0, i, s, h => by
    rw [run_loopD _ _ f64b13_eq]
    cases s <;> simp [show i = l.length by omega, stL]
  | k + 1, i, s, h => by
    have hi : i < l.length := by omega
    have ih := fun s => t64g hT l hl hb k (i + 1) s (by omega)
    simp only [Int.natCast_succ] at ih
    have ws := wrapS i (by omega)
    have h62 := c62g hT l[i] (hb l[i] (List.getElem_mem hi))
    rw [run_loopD _ _ f64b13_eq, drop_step hi]
    simp only [stL]
    rw [show (kdv l[i]).1 = kd l[i] from rfl] at h62
    generalize kd l[i] = q at h62 ⊢
    by_cases k0 : q = 0
    · simp [hi, k0, ws, ih, h62, -List.getElem_cons_drop, -List.map_drop]
    by_cases k1 : q = 1
    · simp [hi, k1, ws, ih, h62, -List.getElem_cons_drop, -List.map_drop]
    by_cases k2 : q = 2
    · simp [hi, k2, ws, ih, h62, -List.getElem_cons_drop, -List.map_drop]
    · simp [hi, k0, k1, k2, h62, -List.getElem_cons_drop, -List.map_drop]
theorem c64g (hT : T.fn = tbl0F) (l : List Int) (hl : l.length ≤ 1000000) (hb : ∀ n ∈ l, n ≤ mx) : callW T 64 [il l] = some (.int .i64 (stL l false), []) := by
  rw [call_run T (f := 64) (fn := f64) (by rw [hT]; rfl) _ rfl]
  have h := t64g hT l hl hb l.length 0 false (by omega)
  simp at h
  simp [f64, f64body, h]
end
end Go.Proofs.YtpphfbfmoipoaaaDoor
