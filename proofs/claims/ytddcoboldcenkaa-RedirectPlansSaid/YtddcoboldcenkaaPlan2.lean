/- RedirectPlans: the two loops, and the law's function. No condition. -/
import Derived.Test.YtddcoboldcenkaaPlan
namespace Go.Proofs.Ytddcoboldcenkaa
open Go.PI
set_option maxRecDepth 100000
set_option maxHeartbeats 8000000
set_option linter.unusedSimpArgs false
@[simp] theorem rsv_last (t : Nat) : ∀ l : List AO, rsvIdx t (l ++ [.rsv t]) = some l.length
  | [] => by simp [rsvIdx]
  | a :: l => by
    have ih := rsv_last t l
    show (match rsvIdx t (l ++ [.rsv t]) with | some i => some (i + 1) | none => _) = _
    rw [ih]
    rfl
@[simp] theorem rsv_last2 (t : Nat) (a : AO) (l : List AO) : rsvIdx t (l ++ [a, .rsv t]) = some (l.length + 1) := by
  have := rsv_last t (l ++ [a])
  rw [List.append_assoc] at this
  simpa using this
theorem nc_eq (o : Int) : (abits .and .i64 o 128 != 0) = nc o := by
  unfold nc
  by_cases h : abits .and .i64 o 128 = 0 <;> simp [h]
def tx (ts : List (List UInt8)) (i : Nat) : List UInt8 := (ts[i]?).getD []
theorem tx_eq {ts : List (List UInt8)} {i : Nat} (h : i < ts.length) : tx ts i = ts[i] := by unfold tx; rw [List.getElem?_eq_getElem h]; rfl
def rx (l : List Rx) (i : Nat) : Rx := (l[i]?).getD ⟨0, 0, 0, 0⟩
theorem rx_eq {l : List Rx} {i : Nat} (h : i < l.length) : rx l i = l[i] := by unfold rx; rw [List.getElem?_eq_getElem h]; rfl
/-- the moves from the i-th redirection on -/
def plr (l : List Rx) (ts : List (List UInt8)) (b : Bool) : Nat → Nat → List Mv → List Mv × Int
  | 0, _, acc => (acc, 0)
  | k + 1, i, acc => if (mvF (rx l i) (tx ts i) b).2 = 0 then plr l ts b k (i + 1) (acc ++ [(mvF (rx l i) (tx ts i) b).1]) else ([], (mvF (rx l i) (tx ts i) b).2)
abbrev outL (r : List Mv × Int) : Option (AV × List AO) := some (.tup [.ref 0 0 0 r.1.length, .int .i64 r.2], [.row 37 6 0 (r.1.map encM)])
theorem t9 (l : List Rx) (ts : List (List UInt8)) (o : Int) (hl : l.length ≤ 60) (ht : l.length = ts.length) (h0 : AO) : ∀ (k i g : Nat) (acc : List Mv) (rest : List AO), i + k = l.length → acc.length ≤ i → run tbl (.cl [.tmp 6, .tmp 7]) [.blk 0, .seq (f9r13.seq .ret)] (.loop [18, 0, 1, 2, 19, 8] f9b12) [(18, .int .i64 l.length), (0, .sl 5 (l.map encX)), (1, .sl 1 (ts.map .str)), (2, .int .i64 o), (19, .int .i64 i), (8, .ref 1 g 0 acc.length)] (h0 :: .row 37 6 g (acc.map encM) :: rest) = outL (plr l ts (nc o) k i acc)
  | 0, i, g, acc, rest, h, ha => by
    rw [run_loopD _ _ f9b12_eq]
    simp [show ¬ i < l.length by omega, plr]
  | k + 1, i, g, acc, rest, h, ha => by
    have hi : i < l.length := by omega
    have hj : i < ts.length := by omega
    have hc := c17 l[i] (nc o) ts[i]
    have ih := fun r => t9 l ts o hl ht h0 k (i + 1) (g + 1) (acc ++ [(mvF l[i] ts[i] (nc o)).1]) r (by omega) (by simp; omega)
    rw [Int.natCast_succ] at ih
    rw [run_loopD _ _ f9b12_eq, plr, rx_eq hi, tx_eq hj]
    simp at ih
    by_cases e : (mvF l[i] ts[i] (nc o)).2 = 0
    · rw [if_pos e]
      simp [hi, hj, hc, e, nc_eq, wrapS i (by omega), show acc.length ≤ 1073741823 by omega, ih]
    · rw [if_neg e]
      simp [hi, hj, hc, e, nc_eq]
theorem mvF_ok {r : Rx} {t : List UInt8} {b : Bool} (h : ¬ (r.fd < 0 ∨ 9 < r.fd)) : (mvF r t b).2 = (mvS r.op t b).2 := by
  unfold mvF
  rw [if_neg h]
  split
  · simp_all
  · rfl
theorem mvF_ok1 {r : Rx} {t : List UInt8} {b : Bool} (h : ¬ (r.fd < 0 ∨ 9 < r.fd)) (h2 : (mvS r.op t b).2 = 0) : (mvF r t b).1 = { (mvS r.op t b).1 with fd := r.fd } := by
  unfold mvF
  rw [if_neg h, if_pos h2]
theorem t8 (l : List Rx) (ts : List (List UInt8)) (o : Int) (hl : l.length ≤ 60) (ht : l.length = ts.length) (h0 : AO) : ∀ (k i g : Nat) (acc : List Mv) (rest : List AO), i + k = l.length → acc.length ≤ i → run tbl (.cl [.tmp 6, .tmp 7]) [.blk 0, .seq (f8r16.seq .ret)] (.loop [8, 20, 19, 18, 2, 1] f8b15) [(8, .ref 1 g 0 acc.length), (20, .int .i64 i), (19, .int .i64 l.length), (18, .sl 5 (l.map encX)), (2, .int .i64 o), (1, .sl 1 (ts.map .str))] (h0 :: .row 37 6 g (acc.map encM) :: rest) = outL (plr l ts (nc o) k i acc)
  | 0, i, g, acc, rest, h, ha => by
    rw [run_loopD _ _ f8b15_eq]
    simp [show ¬ i < l.length by omega, plr]
  | k + 1, i, g, acc, rest, h, ha => by
    have hi : i < l.length := by omega
    have hj : i < ts.length := by omega
    rw [run_loopD _ _ f8b15_eq, plr, rx_eq hi, tx_eq hj]
    by_cases hf : l[i].fd < 0 ∨ 9 < l[i].fd
    · have e2 : mvF l[i] ts[i] (nc o) = (zM, 2) := by unfold mvF; rw [if_pos hf]
      rw [e2, if_neg (by simp)]
      by_cases hf1 : l[i].fd < 0
      · simp [hi, hj, hf1]
      · have hf2 : 9 < l[i].fd := by omega
        simp [hi, hj, hf1, hf2]
    · have hf1 : ¬ l[i].fd < 0 := fun hh => hf (.inl hh)
      have hf2 : ¬ 9 < l[i].fd := fun hh => hf (.inr hh)
      have hc := c16 l[i].op o ts[i]
      rw [mvF_ok hf]
      by_cases e : (mvS l[i].op ts[i] (nc o)).2 = 0
      · have ih := fun r => t8 l ts o hl ht h0 k (i + 1) (g + 1) (acc ++ [(mvF l[i] ts[i] (nc o)).1]) r (by omega) (by simp; omega)
        rw [Int.natCast_succ] at ih
        rw [if_pos e]
        rw [mvF_ok1 hf e] at ih ⊢
        simp at ih
        simp [hi, hj, hf1, hf2, hc, e, wrapS i (by omega), show acc.length ≤ 1073741823 by omega, ih]
      · rw [if_neg e]
        simp [hi, hj, hf1, hf2, hc, e]
abbrev planR (l : List Rx) (ts : List (List UInt8)) (o : Int) : List Mv × Int := if l.length = ts.length then plr l ts (nc o) l.length 0 [] else ([], 1)
theorem c8 (l : List Rx) (ts : List (List UInt8)) (o : Int) (hl : l.length ≤ 60) : callW tbl 8 [.sl 5 (l.map encX), .sl 1 (ts.map .str), .int .i64 o] = outL (planR l ts o) := by
  rw [call_run tbl (f := 8) (fn := f8) rfl _ rfl]
  by_cases ht : l.length = ts.length
  · have h := fun h0 => t8 l ts o hl ht h0 l.length 0 0 [] [] (by omega) (by simp)
    simp at h
    rw [planR, if_pos ht]
    simp [f8, f8body, ← ht, h]
  · rw [planR, if_neg ht]
    simp [f8, f8body, show ¬ ((l.length : Int) = ts.length) by omega]
theorem c9 (l : List Rx) (ts : List (List UInt8)) (o : Int) (hl : l.length ≤ 60) : callW tbl 9 [.sl 5 (l.map encX), .sl 1 (ts.map .str), .int .i64 o] = outL (planR l ts o) := by
  rw [call_run tbl (f := 9) (fn := f9) rfl _ rfl]
  by_cases ht : l.length = ts.length
  · have h := fun h0 => t9 l ts o hl ht h0 l.length 0 0 [] [] (by omega) (by simp)
    simp at h
    rw [planR, if_pos ht]
    simp [f9, f9body, ← ht, h]
  · rw [planR, if_neg ht]
    simp [f9, f9body, show ¬ ((l.length : Int) = ts.length) by omega]
theorem plr_length (l : List Rx) (ts : List (List UInt8)) (b : Bool) : ∀ (k i : Nat) (acc : List Mv), (plr l ts b k i acc).1.length ≤ acc.length + k
  | 0, i, acc => by simp [plr]
  | k + 1, i, acc => by
    rw [plr]
    split
    · have := plr_length l ts b k (i + 1) (acc ++ [(mvF (rx l i) (tx ts i) b).1])
      simp at this
      omega
    · simp
theorem c3 (l : List Rx) (ts : List (List UInt8)) (o : Int) : callW tbl 3 [.sl 5 (l.map encX), .sl 1 (ts.map .str), .int .i64 o] = some (.bool true, []) := by
  rw [call_run tbl (f := 3) (fn := f3) rfl _ rfl]
  by_cases hs : (60 : Int) < l.length
  · simp [f3, f3body, hs, c7]
  · by_cases hs2 : (60 : Int) < ts.length
    · simp [f3, f3body, hs, hs2, c7]
    · have hl : l.length ≤ 60 := by omega
      have h8 := c8 l ts o hl
      have h9 := c9 l ts o hl
      generalize hr : planR l ts o = r at h8 h9
      have hlen : r.1.length ≤ 60 := by
        rw [← hr]
        unfold planR
        split
        · have := plr_length l ts (nc o) l.length 0 []
          simp at this
          omega
        · simp
      have h10 := c10 r.1 (by omega)
      simp [f3, f3body, hs, hs2, h8, h9, h10, c7]
/-- a list of redirections, read -/
theorem rxs {c : AV} (h : HasTy (.sl true [.int .i64, .int .i64, .int .i64, .int .i64, .any]) c) : ∃ l : List Rx, c = .sl 5 (l.map encX) ∧ l.length ≤ maxLen ∧ ∀ x ∈ l, True :=
  HasTy.structs h (fun cs hl hj => by
    have h0 := Tys.of _ cs hl hj
    obtain ⟨_, _, rfl, k0, h0⟩ := h0.cons_inv
    obtain ⟨_, _, rfl, k1, h0⟩ := h0.cons_inv
    obtain ⟨_, _, rfl, k2, h0⟩ := h0.cons_inv
    obtain ⟨_, _, rfl, k3, h0⟩ := h0.cons_inv
    obtain ⟨_, _, rfl, k4, h0⟩ := h0.cons_inv
    obtain rfl := h0.nil_inv
    obtain ⟨a, rfl, _⟩ := k0.int_inv
    obtain ⟨b, rfl, _⟩ := k1.int_inv
    obtain ⟨d, rfl, _⟩ := k2.int_inv
    obtain ⟨e, rfl, _⟩ := k3.int_inv
    obtain rfl := k4.any_inv
    exact ⟨⟨a, b, d, e⟩, rfl, trivial⟩)
end Go.Proofs.Ytddcoboldcenkaa
