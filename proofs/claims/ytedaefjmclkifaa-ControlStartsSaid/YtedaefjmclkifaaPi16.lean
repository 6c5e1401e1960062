/- A region that draws its order: whatever order the edges allow, it ends as in the order of its text. No condition. -/
import Derived.Test.YtedaefjmclkifaaPi15
namespace Go.PI
open Go.RowKit

section
variable {φ : Nat → List AV → Option (AV × List AO)}

/-- The run in the order of the text, step by step. -/
structure Run (φ : Nat → List AV → Option (AV × List AO)) (is : List IOper) (E : Nat → Env) (Hh : Nat → List AO) (D : Nat → AV) (bb : Nat → Bool) : Prop where
  step : ∀ (j : Nat) (io : IOper), is[j]? = some io → wantedA (E j) io.guard = some (bb j) ∧ (bb j = true → aop φ io.op (E j) (Hh j) = some (D j, Hh (j + 1))) ∧
    (bb j = false → D j = .tup [] ∧ Hh (j + 1) = Hh j) ∧ E (j + 1) = (E j).put io.dst (D j)

theorem run_of : ∀ (is : List IOper) (e : Env) (H : List AO) (e' : Env) (H' : List AO), runOps φ is e H = some (e', H') → ∃ E Hh D bb, Run φ is E Hh D bb ∧ E 0 = e ∧ Hh 0 = H ∧ E is.length = e' ∧ Hh is.length = H'
  | [], e, H, e', H', h => by
    simp [runOps] at h
    exact ⟨fun _ => e, fun _ => H, fun _ => .top, fun _ => true, ⟨fun j io hj => by simp at hj⟩, rfl, rfl, h.1, h.2⟩
  | o :: r, e, H, e', H', h => by
    simp only [runOps] at h
    obtain ⟨b, hb, h⟩ := Option.bind_eq_some_iff.1 h
    have main : ∀ (d : AV) (H1 : List AO), (b = true → aop φ o.op e H = some (d, H1)) → (b = false → d = .tup [] ∧ H1 = H) → runOps φ r (e.put o.dst d) H1 = some (e', H') →
        ∃ E Hh D bb, Run φ (o :: r) E Hh D bb ∧ E 0 = e ∧ Hh 0 = H ∧ E (o :: r).length = e' ∧ Hh (o :: r).length = H' := by
      intro d H1 h1 h2 h3
      obtain ⟨E, Hh, D, bb, hrun, e1, e2, e3, e4⟩ := run_of r _ _ _ _ h3
      refine ⟨fun j => match j with | 0 => e | j + 1 => E j, fun j => match j with | 0 => H | j + 1 => Hh j, fun j => match j with | 0 => d | j + 1 => D j, fun j => match j with | 0 => b | j + 1 => bb j, ⟨?_⟩, rfl, rfl, e3, e4⟩
      intro j io hj
      cases j with
      | zero =>
        simp at hj; subst hj
        refine ⟨hb, fun hh => ?_, fun hh => ?_, ?_⟩
        · rw [h1 hh]; simp [e2]
        · exact ⟨(h2 hh).1, by simp [e2, (h2 hh).2]⟩
        · simp [e1]
      | succ j => exact hrun.step j io (by simpa using hj)
    cases b with
    | true =>
      simp only [if_true] at h
      obtain ⟨q, hq, h⟩ := Option.bind_eq_some_iff.1 h
      exact main q.1 q.2 (fun _ => hq) (fun hh => by cases hh) h
    | false =>
      simp only [Bool.false_eq_true, if_false] at h
      exact main (.tup []) H (fun hh => by cases hh) (fun _ => ⟨rfl, rfl⟩) h

variable {is : List IOper} {E : Nat → Env} {Hh : Nat → List AO} {D : Nat → AV} {bb : Nat → Bool}

def dstAt (is : List IOper) (j : Nat) : Option Nat := (is[j]?).bind (·.dst)
def loudAt (is : List IOper) (j : Nat) : Bool := ((is[j]?).map fun o => loudI o.op).getD false
def modAt (is : List IOper) (j : Nat) : Bool := ((is[j]?).map fun o => modI o.op).getD false

/-- The frame once the operations of S have been carried out. -/
def EV (is : List IOper) (e : Env) (D : Nat → AV) (S : Nat → Bool) : Nat → Env
  | 0 => e
  | j + 1 => if S j then (EV is e D S j).put (dstAt is j) (D j) else EV is e D S j

theorem get_put (e : Env) (d : Option Nat) (v : AV) (t : Nat) : (e.put d v).get t = if d = some t then v else e.get t := by
  cases d with
  | none => rfl
  | some i => simp [Env.put, Env.get]

theorem EV_agree {e : Env} {S S' : Nat → Bool} {t : Nat} : ∀ (k : Nat), (∀ i, i < k → dstAt is i = some t → S i = S' i) → (EV is e D S k).get t = (EV is e D S' k).get t
  | 0, _ => rfl
  | k + 1, h => by
    have ih := EV_agree (e := e) (S := S) (S' := S') (t := t) k (fun i hi => h i (by omega))
    simp only [EV]
    by_cases hd : dstAt is k = some t
    · rw [h k (by omega) hd]
      split
      · rw [get_put, get_put, if_pos hd, if_pos hd]
      · exact ih
    · have e1 : ∀ (S0 : Nat → Bool), (if S0 k then (EV is e D S0 k).put (dstAt is k) (D k) else EV is e D S0 k).get t = (EV is e D S0 k).get t := by
        intro S0
        split
        · rw [get_put, if_neg hd]
        · rfl
      rw [e1, e1]; exact ih

theorem EV_last {e : Env} {S : Nat → Bool} {t j : Nat} (hS : S j = true) (hd : dstAt is j = some t) : ∀ (k : Nat), j < k → (∀ i, j < i → i < k → S i = true → dstAt is i ≠ some t) → (EV is e D S k).get t = D j
  | 0, h, _ => by omega
  | k + 1, hj, h => by
    simp only [EV]
    rcases Nat.lt_or_ge j k with hjk | hjk
    · have ih := EV_last (e := e) hS hd k hjk (fun i h1 h2 => h i h1 (by omega))
      split
      · rename_i hSk
        rw [get_put, if_neg (h k hjk (by omega) hSk)]; exact ih
      · exact ih
    · have : j = k := by omega
      subst this
      rw [hS]; simp only [if_true]
      rw [get_put, if_pos hd]

theorem EV_text (hr : Run φ is E Hh D bb) (j : Nat) : ∀ (k : Nat), k ≤ is.length → EV is (E 0) D (fun i => decide (i < j)) k = E (min k j)
  | 0, _ => by simp [EV]
  | k + 1, hk => by
    have ih := EV_text hr j k (by omega)
    have hio : is[k]? = some is[k] := List.getElem?_eq_getElem (by omega)
    simp only [EV]
    rw [ih]
    by_cases h : k < j
    · simp only [h, decide_true, if_true]
      rw [Nat.min_eq_left (by omega), Nat.min_eq_left (by omega)]
      rw [(hr.step k _ hio).2.2.2]
      simp [dstAt, hio]
    · simp only [h, decide_false, Bool.false_eq_true, if_false]
      rw [Nat.min_eq_right (by omega), Nat.min_eq_right (by omega)]

/-- How far the loud operations of S go. -/
def mm (is : List IOper) (S : Nat → Bool) : Nat → Nat
  | 0 => 0
  | k + 1 => if S k && loudAt is k then k + 1 else mm is S k

theorem mm_le {S : Nat → Bool} : ∀ k, mm is S k ≤ k
  | 0 => Nat.le_refl _
  | k + 1 => by
    simp only [mm]
    split
    · exact Nat.le_refl _
    · have := mm_le (S := S) k; omega
theorem mm_ge {S : Nat → Bool} {i : Nat} (hS : S i = true) (hl : loudAt is i = true) : ∀ k, i < k → i + 1 ≤ mm is S k
  | 0, h => by omega
  | k + 1, h => by
    simp only [mm]
    split
    · omega
    · rename_i hc
      rcases Nat.lt_or_ge i k with hik | hik
      · exact mm_ge hS hl k hik
      · have : i = k := by omega
        subst this
        simp [hS, hl] at hc
theorem mm_at {S : Nat → Bool} : ∀ k, mm is S k = 0 ∨ ∃ i, i < k ∧ mm is S k = i + 1 ∧ S i = true ∧ loudAt is i = true
  | 0 => .inl rfl
  | k + 1 => by
    simp only [mm]
    split
    · rename_i hc
      simp at hc
      exact .inr ⟨k, by omega, rfl, hc.1, hc.2⟩
    · rcases mm_at (S := S) k with h | ⟨i, h1, h2, h3⟩
      · exact .inl h
      · exact .inr ⟨i, by omega, h2, h3⟩

theorem quiet_run (hr : Run φ is E Hh D bb) {i : Nat} (hi : i < is.length) (hl : loudAt is i = false) : Hh (i + 1) = Hh i := by
  have hio : is[i]? = some is[i] := List.getElem?_eq_getElem hi
  obtain ⟨_, h2, h3, _⟩ := hr.step i _ hio
  have hl' : loudI is[i].op = false := by simpa [loudAt, hio] using hl
  cases hb : bb i with
  | true => exact aop_quiet hl' (h2 hb)
  | false => exact (h3 hb).2

theorem same_run (hr : Run φ is E Hh D bb) {i : Nat} (hi : i < is.length) (hm : modAt is i = false) : HSame (Hh i) (Hh (i + 1)) := by
  have hio : is[i]? = some is[i] := List.getElem?_eq_getElem hi
  obtain ⟨_, h2, h3, _⟩ := hr.step i _ hio
  have hm' : modI is[i].op = false := by simpa [modAt, hio] using hm
  cases hb : bb i with
  | true => exact aop_loud hm' (h2 hb)
  | false => rw [(h3 hb).2]; exact HSame.refl _

theorem same_range (hr : Run φ is E Hh D bb) : ∀ (n a : Nat), a + n ≤ is.length → (∀ i, a ≤ i → i < a + n → modAt is i = false) → HSame (Hh a) (Hh (a + n))
  | 0, a, _, _ => HSame.refl _
  | n + 1, a, hn, h => (same_range hr n a (by omega) (fun i h1 h2 => h i h1 (by omega))).trans (same_run hr (by omega) (h (a + n) (by omega) (by omega)))

theorem quiet_range (hr : Run φ is E Hh D bb) : ∀ (n a : Nat), a + n ≤ is.length → (∀ i, a ≤ i → i < a + n → loudAt is i = false) → Hh (a + n) = Hh a
  | 0, a, _, _ => rfl
  | n + 1, a, hn, h => by
    have := quiet_run hr (i := a + n) (by omega) (h (a + n) (by omega) (by omega))
    rw [show a + (n + 1) = a + n + 1 by omega, this]
    exact quiet_range hr n a (by omega) (fun i h1 h2 => h i h1 (by omega))

end

section
variable {P : Program} {B N : Nat} {φ : Nat → List AV → Option (AV × List AO)}

theorem cOpers_at {ops : Array Oper} : ∀ (l : List Oper) (is : List IOper), cOpers P N ops l = some is → is.length = l.length ∧ ∀ (j : Nat) (o : Oper), l[j]? = some o → ∃ io, is[j]? = some io ∧ cOper P N ops o = some io
  | [], is, h => by simp [cOpers] at h; subst h; exact ⟨rfl, fun j o hj => by simp at hj⟩
  | x :: r, is, h => by
    simp only [cOpers] at h
    obtain ⟨io, hio, h⟩ := Option.bind_eq_some_iff.1 h
    obtain ⟨is', his, rfl⟩ := Option.map_eq_some_iff.1 h
    obtain ⟨h1, h2⟩ := cOpers_at r is' his
    refine ⟨by simp [h1], fun j o hj => ?_⟩
    cases j with
    | zero => simp at hj; subst hj; exact ⟨io, rfl, hio⟩
    | succ j => exact h2 j o (by simpa using hj)

structure DrawFacts (ops : List Oper) (is : List IOper) : Prop where
  back : ∀ (j : Nat) (o : Oper) (ed : Edge), ops[j]? = some o → ed ∈ o.after.toList → Region.binds .any ed = true → ed.on < j
  conf : ∀ (i j : Nat) (a b : IOper), i < j → is[i]? = some a → is[j]? = some b → confI a b = true → ((befs ops []).getD j 0).testBit i = true

theorem drawFacts {ops : List Oper} {is : List IOper} (h : drawOk ops is = true) : DrawFacts ops is := by
  unfold drawOk at h
  simp only [Bool.and_eq_true, List.all_eq_true] at h
  obtain ⟨⟨_, h1⟩, h2⟩ := h
  refine ⟨fun j o ed hj hm hb => ?_, fun i j a b hij hi hj hc => ?_⟩
  · have := h1 (o, j) (by rw [List.mem_zipIdx_iff_getElem?]; exact hj) ed hm
    simpa [hb] using this
  · have hlt := lt_of_some hj
    have := h2 (b, j) (by rw [List.mem_zipIdx_iff_getElem?]; exact hj) (a, i) (by rw [List.mem_zipIdx_iff_getElem?, List.getElem?_take, if_pos hij]; exact hi)
    simpa [hc] using this

/-- What has been carried out: closed under 'comes before'. -/
def Closed (ops : List Oper) (S : Nat → Bool) : Prop := ∀ j i, S j = true → ((befs ops []).getD j 0).testBit i = true → S i = true

end
end Go.PI
