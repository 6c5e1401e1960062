/- Session and Group on both sides; Same; the law ProcGroups. No condition. -/
import Derived.Test.YtgppkhbidcgnlaaDoorPs
namespace Go.Proofs.YtgppkhbidcgnlaaDoor
open Go.PI
set_option maxRecDepth 100000
set_option maxHeartbeats 8000000
set_option linter.unusedSimpArgs false
theorem any_step {α : Type} {p : α → Bool} {l : List α} {i : Nat} (h : i < l.length) : (l.drop i).any p = (p l[i] || (l.drop (i + 1)).any p) := by rw [drop_step h]; rfl
theorem any_end {α : Type} {p : α → Bool} {l : List α} {i : Nat} (h : i = l.length) : (l.drop i).any p = false := by rw [List.drop_eq_nil_of_le (by omega)]; rfl
def sesR (l : List Px) (n : Int) : Option (List Px) × Int := if ixG (liveX n) l 0 < 0 then (none, 21) else if (l.any fun x => decide (x.r.pgid = n)) = true then (none, 23) else (some (upd l (ixG (liveX n) l 0) (setSes n)), 0)
theorem t26x {l : List Px} (hl : l.length ≤ 1000000) (n : Int) (k : Nat) (hk : k < l.length) : ∀ (m i : Nat), i + m = l.length → run tbl (.cl [.tmp 4, .tmp 5]) [.blk 0, .seq (f26r10.seq (f26r11.seq (f26r12.seq .ret)))] (.loop [6, 1, 7, 0] f26b9) [(6, .int .i64 k), (1, .int .i64 n), (7, .int .i64 i), (0, pX l)] [.row 30 13 0 []] = oc2 l (if ((l.drop i).any fun x => decide (x.r.pgid = n)) = true then (none, 23) else (some (upd l k (setSes n)), 0))
  | 0, i, h => by
    rw [run_loopD _ _ f26b9_eq, any_end (by omega), if_neg (by simp)]
    have h59 := c59x hl
    have hu := upd_at l k hk (setSes n)
    have hln := upd_len l k (setSes n)
    generalize upd l k (setSes n) = R at hu hln ⊢
    simp [show ¬ i < l.length by omega, h59, hk, hu, hln, setSes]
  | m + 1, i, h => by
    have hi : i < l.length := by omega
    have ih := t26x hl n k hk m (i + 1) (by omega)
    rw [Int.natCast_succ] at ih
    rw [run_loopD _ _ f26b9_eq, any_step hi]
    by_cases e : l[i].r.pgid = n
    · simp [hi, eq_true e]
    · rw [show decide (l[i].r.pgid = n) = false by simp [e], Bool.false_or]
      generalize oc2 l (if ((l.drop (i + 1)).any fun x => decide (x.r.pgid = n)) = true then (none, 23) else (some (upd l k (setSes n)), 0)) = R at ih ⊢
      simp [hi, e, wrapS i (by omega), ih]
theorem c26x {l : List Px} (hl : l.length ≤ 1000000) (hu : Up l) (n : Int) : callW tbl 26 [pX l, .int .i64 n] = oc2 l (sesR l n) := by
  rw [call_run tbl (f := 26) (fn := f26) rfl _ rfl]
  unfold sesR
  have h56 := c56x hl hu n
  rcases ixG_spec (liveX n) l 0 with ⟨e1, _⟩ | ⟨k, hk, e1, _, _⟩
  · rw [e1] at h56 ⊢
    rw [if_pos (by omega)]
    simp [f26, f26body, h56]
  · rw [Nat.zero_add] at e1
    rw [e1] at h56 ⊢
    rw [if_neg (by omega)]
    have ht := t26x hl n k hk l.length 0 (by omega)
    rw [List.drop_zero] at ht
    generalize oc2 l (if (l.any fun x => decide (x.r.pgid = n)) = true then (none, 23) else (some (upd l k (setSes n)), 0)) = R at ht ⊢
    simp at ht
    simp [f26, f26body, h56, ht, show ¬ (k : Int) < 0 by omega]
/- Group -/
def setPg (n : Int) (x : Px) : Px := { x with r := { x.r with pgid := n } }
def atX (l : List Px) (i : Int) : Px := (l[i.toNat]?).getD (toX dP)
theorem atX_eq {l : List Px} {k : Nat} (h : k < l.length) : atX l k = l[k] := by unfold atX; rw [show ((k : Int)).toNat = k by omega, List.getElem?_eq_getElem h]; rfl
abbrev inG (g s : Int) (x : Px) : Bool := decide (x.r.pgid = g) && decide (x.r.sid = s)
abbrev outG (g s : Int) (x : Px) : Bool := decide (x.r.pgid = g) && decide (x.r.sid ≠ s)
/-- the end of Group: 'w' whose group it is, 'g' the group, 'own', 'k' the places -/
def grpT (l L : List Px) (w g own k : Int) : Option (List Px) × Int :=
  if (atX l k).r.sid = w ∨ (atX l k).r.sid ≠ (atX l own).r.sid then (none, 23) else if l.any (outG g (atX l k).r.sid) = true then (none, 23) else if g ≠ w ∧ l.any (inG g (atX l k).r.sid) = false then (none, 23) else (some (upd L k (setPg g)), 0)
def grp (l L : List Px) (n w g : Int) : Option (List Px) × Int :=
  if ixG (liveX n) l 0 < 0 ∨ ixG (liveX w) l 0 < 0 ∨ (w ≠ n ∧ (atX l (ixG (liveX w) l 0)).r.ppid ≠ n) then (none, 21) else if g < 0 ∨ 2147483647 < g then (none, 1) else
  grpT l L w (if g = 0 then w else g) (ixG (liveX n) l 0) (ixG (liveX w) l 0)
abbrev w0 (n w : Int) : Int := if w = 0 then n else w
abbrev tail24b : IC := (f24r21.seq (.cond (.t 127) (f24r22.seq .ret) .skip)).seq (f24r23.seq (f24r24.seq (f24r25.seq .ret)))
theorem t24x {l : List Px} (hl : l.length ≤ 1000000) (g : Int) (k : Nat) (hk : k < l.length) : ∀ (m i : Nat) (b : Bool), i + m = l.length → run tbl (.cl [.tmp 8, .tmp 9]) [.blk 0, .seq tail24b] (.loop [12, 3, 11, 13, 0] f24b20) [(12, .bool b), (3, .int .i64 g), (11, .int .i64 k), (13, .int .i64 i), (0, pX l)] [.row 30 13 0 []] = oc2 l (if (l.drop i).any (outG g l[k].r.sid) = true then (none, 23) else if b = false ∧ (l.drop i).any (inG g l[k].r.sid) = false then (none, 23) else (some (upd l k (setPg g)), 0))
  | 0, i, b, h => by
    rw [run_loopD _ _ f24b20_eq, any_end (by omega), any_end (by omega), if_neg (by simp)]
    have h59 := c59x hl
    have hu := upd_at l k hk (setPg g)
    have hln := upd_len l k (setPg g)
    generalize upd l k (setPg g) = R at hu hln ⊢
    cases b
    · rw [if_pos (by simp)]
      simp [show ¬ i < l.length by omega]
    · rw [if_neg (by simp)]
      simp [show ¬ i < l.length by omega, h59, hk, hu, hln, setPg]
  | m + 1, i, b, h => by
    have hi : i < l.length := by omega
    have ih := fun b => t24x hl g k hk m (i + 1) b (by omega)
    rw [Int.natCast_succ] at ih
    rw [run_loopD _ _ f24b20_eq, any_step hi, any_step hi]
    generalize (l.drop (i + 1)).any (outG g l[k].r.sid) = O at ih ⊢
    generalize (l.drop (i + 1)).any (inG g l[k].r.sid) = I at ih ⊢
    by_cases e : l[i].r.pgid = g
    · by_cases s : l[i].r.sid = l[k].r.sid
      · have ih := ih true
        rw [show outG g l[k].r.sid l[i] = false by simp [outG, s], show inG g l[k].r.sid l[i] = true by simp [inG, s, e], Bool.false_or, Bool.true_or]
        simp only [Bool.true_eq_false, false_and, and_false, if_false] at ih ⊢
        generalize oc2 l (if O = true then (none, 23) else (some (upd l k (setPg g)), 0)) = R at ih ⊢
        simp [hi, hk, eq_true e, eq_true s, wrapS i (by omega), ih]
      · rw [show outG g l[k].r.sid l[i] = true by simp [outG, s, e], Bool.true_or, if_pos rfl]
        simp [hi, hk, eq_true e, s]
    · have ih := ih b
      rw [show outG g l[k].r.sid l[i] = false by simp [outG, e], show inG g l[k].r.sid l[i] = false by simp [inG, e], Bool.false_or, Bool.false_or]
      generalize oc2 l (if O = true then (none, 23) else if b = false ∧ I = false then (none, 23) else (some (upd l k (setPg g)), 0)) = R at ih ⊢
      simp [hi, e, wrapS i (by omega), ih]
abbrev tail24 : IC := (f24r10.seq (.cond (.t 74) (f24r11.seq .ret) .skip)).seq (f24r12.seq ((f24r13.seq (.block 0 (.loop [12, 3, 11, 13, 0] f24b20))).seq tail24b))
theorem t24y {l : List Px} (hl : l.length ≤ 1000000) (w g : Int) (j k : Nat) (hj : j < l.length) (hk : k < l.length) (e : Env) (e0 : e.get 0 = pX l) (e2 : e.get 2 = .int .i64 w) (e3 : e.get 3 = .int .i64 g) (e10 : e.get 10 = .int .i64 j) (e11 : e.get 11 = .int .i64 k) : run tbl (.cl [.tmp 8, .tmp 9]) [] tail24 e [.row 30 13 0 []] = oc2 l (grpT l l w g j k) := by
  unfold grpT
  rw [atX_eq hj, atX_eq hk]
  by_cases c1 : l[k].r.sid = w
  · rw [if_pos (.inl c1)]
    simp [e0, e2, e3, e10, e11, hk, eq_true c1]
  · by_cases c2 : l[k].r.sid = l[j].r.sid
    · rw [if_neg (by rintro (h | h); exact c1 h; exact h c2)]
      have ht := t24x hl g k hk l.length 0 (decide (g = w)) (by omega)
      rw [List.drop_zero] at ht
      rw [show (if g ≠ w ∧ l.any (inG g l[k].r.sid) = false then ((none, 23) : Option (List Px) × Int) else (some (upd l k (setPg g)), 0)) = if decide (g = w) = false ∧ l.any (inG g l[k].r.sid) = false then (none, 23) else (some (upd l k (setPg g)), 0) by simp]
      generalize oc2 l (if l.any (outG g l[k].r.sid) = true then (none, 23) else if decide (g = w) = false ∧ l.any (inG g l[k].r.sid) = false then (none, 23) else (some (upd l k (setPg g)), 0)) = R at ht ⊢
      by_cases c3 : g = w
      · simp [c3] at ht
        simp [e0, e2, e3, e10, e11, hk, hj, c1, eq_true c2, c3, ht]
      · simp [c3] at ht
        simp [e0, e2, e3, e10, e11, hk, hj, c1, eq_true c2, show (g == w) = false by simp [c3], ht]
    · rw [if_pos (.inr c2)]
      simp [e0, e2, e3, e10, e11, hk, hj, c1, c2]
theorem c24x {l : List Px} (hl : l.length ≤ 1000000) (hu : Up l) (n w g : Int) : callW tbl 24 [pX l, .int .i64 n, .int .i64 w, .int .i64 g] = oc2 l (grp l l n (w0 n w) g) := by
  rw [call_run tbl (f := 24) (fn := f24) rfl _ rfl]
  have key : ∀ (e : Env) (w : Int), e.get 0 = pX l → e.get 1 = .int .i64 n → e.get 2 = .int .i64 w → e.get 3 = .int .i64 g → run tbl (.cl [.tmp 8, .tmp 9]) [] (f24r3.seq ((f24r4.seq (.cond (.t 43) (f24r5.seq .ret) .skip)).seq ((f24r6.seq (.cond (.t 50) (f24r7.seq .ret) .skip)).seq ((f24r8.seq (.cond (.t 53) f24r9 .skip)).seq tail24)))) e [.row 30 13 0 []] = oc2 l (grp l l n w g) := by
    intro e w e0 e1 e2 e3
    have hn := c56x hl hu n
    have hw := c56x hl hu w
    unfold grp
    rcases ixG_spec (liveX n) l 0 with ⟨i1, _⟩ | ⟨j, hj, i1, _, _⟩
    · rw [i1] at hn ⊢
      rw [if_pos (by omega)]
      generalize ixG (liveX w) l 0 = q at hw
      simp [-f24r10_run, e0, e1, e2, e3, hn, hw]
    · rw [Nat.zero_add] at i1
      rw [i1] at hn ⊢
      rcases ixG_spec (liveX w) l 0 with ⟨i2, _⟩ | ⟨k, hk, i2, _, _⟩
      · rw [i2] at hw ⊢
        rw [if_pos (by omega)]
        simp [-f24r10_run, e0, e1, e2, e3, hn, hw, show ¬ (j : Int) < 0 by omega]
      · rw [Nat.zero_add] at i2
        rw [i2] at hw ⊢
        rw [atX_eq hk]
        have nj : ¬ (j : Int) < 0 := by omega
        have nk : ¬ (k : Int) < 0 := by omega
        by_cases c1 : w ≠ n ∧ l[k].r.ppid ≠ n
        · rw [if_pos (.inr (.inr c1))]
          simp [-f24r10_run, e0, e1, e2, e3, hn, hw, nj, nk, c1, hk]
        · rw [if_neg (by rintro (h | h | h); exact nj h; exact nk h; exact c1 h)]
          have rest : ∀ e : Env, e.get 0 = pX l → e.get 2 = .int .i64 w → e.get 3 = .int .i64 g → e.get 10 = .int .i64 j → e.get 11 = .int .i64 k → run tbl (.cl [.tmp 8, .tmp 9]) [] ((f24r6.seq (.cond (.t 50) (f24r7.seq .ret) .skip)).seq ((f24r8.seq (.cond (.t 53) f24r9 .skip)).seq tail24)) e [.row 30 13 0 []] = oc2 l (if g < 0 ∨ 2147483647 < g then (none, 1) else grpT l l w (if g = 0 then w else g) j k) := by
            intro e e0 e2 e3 e10 e11
            by_cases g1 : g < 0
            · rw [if_pos (.inl g1)]
              simp [-f24r10_run, e0, e2, e3, e10, e11, g1]
            · by_cases g2 : 2147483647 < g
              · rw [if_pos (.inr g2)]
                simp [-f24r10_run, e0, e2, e3, e10, e11, g1, g2]
              · rw [if_neg (by omega)]
                by_cases g0 : g = 0
                · have ht := t24y hl w w j k hj hk
                  rw [if_pos g0]
                  generalize oc2 l (grpT l l w w j k) = R at ht ⊢
                  simp [-f24r10_run, e0, e2, e3, e10, e11, g0]
                  rw [← run_seq, ← run_seq]
                  exact ht _ (by simp) (by simp) (by simp) (by simp) (by simp)
                · have ht := t24y hl w g j k hj hk
                  rw [if_neg g0]
                  generalize oc2 l (grpT l l w g j k) = R at ht ⊢
                  simp [-f24r10_run, e0, e2, e3, e10, e11, g1, g2, g0]
                  rw [← run_seq, ← run_seq]
                  exact ht _ (by simp) (by simp) (by simp) (by simp) (by simp)
          generalize oc2 l (if g < 0 ∨ 2147483647 < g then (none, 1) else grpT l l w (if g = 0 then w else g) j k) = R at rest ⊢
          by_cases c2 : w = n
          · simp [-f24r6_run, e0, e1, e2, e3, hn, hw, nj, nk, eq_true c2]
            rw [← run_seq, ← run_seq]
            exact rest _ (by simp) (by simp) (by simp) (by simp) (by simp)
          · have c3 : l[k].r.ppid = n := Classical.byContradiction fun h => c1 ⟨c2, h⟩
            simp [-f24r6_run, e0, e1, e2, e3, hn, hw, nj, nk, c2, hk, eq_true c3]
            rw [← run_seq, ← run_seq]
            exact rest _ (by simp) (by simp) (by simp) (by simp) (by simp)
  by_cases h0 : w = 0
  · rw [show w0 n w = n by simp [h0]]
    simp [-f24r3_run, f24, f24body, h0]
    rw [← run_seq]
    exact key _ n (by simp) (by simp) (by simp) (by simp)
  · rw [show w0 n w = w by simp [h0]]
    simp [-f24r3_run, f24, f24body, h0]
    rw [← run_seq]
    exact key _ w (by simp) (by simp) (by simp) (by simp)
/- the program's Group -/
theorem cv60 {A : List AO} {j : Nat} {n : Int} (h : A[j]? = some (.box 3 1 (.int .i64 n))) : Looks 60 [.bptr j 0] (fun x => decide (x.r.pgid = n)) A := by
  intro x Z
  refine ⟨[.box 30 13 (encX x)], ?_⟩
  rw [callV_run tbl (f := 60) (fn := f60) rfl _ _ rfl]
  by_cases h1 : x.r.pgid = n
  · simp [f60, f60body, getL h, eq_true h1]
  · simp [f60, f60body, getL h, h1]
theorem cv61 {A : List AO} {j : Nat} {n : Int} (h : A[j]? = some (.box 3 1 (.int .i64 n))) : Looks 61 [.bptr j 0] (fun x => decide (x.r.sid = n)) A := by
  intro x Z
  refine ⟨[.box 30 13 (encX x)], ?_⟩
  rw [callV_run tbl (f := 61) (fn := f61) rfl _ _ rfl]
  by_cases h1 : x.r.sid = n
  · simp [f61, f61body, getL h, eq_true h1]
  · simp [f61, f61body, getL h, h1]
theorem cv62 {A : List AO} {j : Nat} {n : Int} (h : A[j]? = some (.box 3 1 (.int .i64 n))) : Looks 62 [.bptr j 0] (fun x => decide (x.r.sid ≠ n)) A := by
  intro x Z
  refine ⟨[.box 30 13 (encX x)], ?_⟩
  rw [callV_run tbl (f := 62) (fn := f62) rfl _ _ rfl]
  by_cases h1 : x.r.sid = n
  · simp [f62, f62body, getL h, eq_true h1]
  · simp [f62, f62body, getL h, h1]
theorem any_and {α : Type} (p q : α → Bool) (l : List α) : (l.filter p).any q = l.any fun x => p x && q x := by
  induction l with
  | nil => rfl
  | cons x l ih => cases h : p x <;> simp [h, ih]
abbrev tail23 : IC := f23r11.seq (f23r12.seq (f23r13.seq (f23r14.seq ((IC.block 1 ((f23r15.seq (.cond (.t 67) .skip (f23r16.seq (.cond (.t 67) .skip f23r17)))).seq (.cond (.t 67) (f23r18.seq .ret) .skip))).seq (f23r19.seq (f23r20.seq (f23r21.seq .ret)))))))
theorem t23x {l : List Px} (hb : BndL l) (w g : Int) (j k : Nat) (hj : j < l.length) (hk : k < l.length) (hp : l[k].r.pid = w) (e : Env) (e0 : e.get 0 = pX l) (e2 : e.get 2 = .int .i64 w) (e7 : e.get 7 = .bptr 0 0) (e10 : e.get 10 = .int .i64 j) (e11 : e.get 11 = .int .i64 k) : run tbl (.cl [.tmp 8, .tmp 9]) [] tail23 e [.box 3 1 (.int .i64 g), .row 30 13 0 []] = oc2 l (grpT l (l.map clX) w g j k) := by
  unfold grpT
  rw [atX_eq hj, atX_eq hk]
  obtain ⟨g1, Z1, h48⟩ := cv48x (A := [.box 3 1 (.int .i64 g)]) hb.len (fun B => cv60 (j := 0) (n := g) rfl) (.sl l) [.row 30 13 0 [], .box 3 1 (.int .i64 l[k].r.sid)]
  have hM : (l.filter fun x => decide (x.r.pgid = g)).length ≤ 1000000 := Nat.le_trans (List.length_filter_le _ _) hb.len
  have aI := any_and (fun x : Px => decide (x.r.pgid = g)) (fun x => decide (x.r.sid = l[k].r.sid)) l
  have aO := any_and (fun x : Px => decide (x.r.pgid = g)) (fun x => decide (x.r.sid ≠ l[k].r.sid)) l
  obtain ⟨Z2, hI⟩ := cv63x (A := [.box 3 1 (.int .i64 g), .row 30 13 0 [], .box 3 1 (.int .i64 l[k].r.sid), .row 30 13 0 [], .row 30 13 g1 ((l.filter fun x => decide (x.r.pgid = g)).map encX)]) hM (cv61 (j := 2) (n := l[k].r.sid) rfl) (.rf 4 g1 _ rfl) Z1
  have hO := fun Z => cv63x (A := [.box 3 1 (.int .i64 g), .row 30 13 0 [], .box 3 1 (.int .i64 l[k].r.sid), .row 30 13 0 [], .row 30 13 g1 ((l.filter fun x => decide (x.r.pgid = g)).map encX)]) hM (cv62 (j := 2) (n := l[k].r.sid) rfl) (.rf 4 g1 _ rfl) Z
  rw [aI] at hI
  rw [aO] at hO
  have h54 := c54x hb
  have hk' : k < (l.map clX).length := by simpa using hk
  have hu := upd_at (l.map clX) k hk' (setPg g)
  have hln := upd_len (l.map clX) k (setPg g)
  rw [show (l.any fun x => decide (x.r.pgid = g) && decide (x.r.sid = l[k].r.sid)) = l.any (inG g l[k].r.sid) from rfl] at hI
  rw [show (l.any fun x => decide (x.r.pgid = g) && decide (x.r.sid ≠ l[k].r.sid)) = l.any (outG g l[k].r.sid) from rfl] at hO
  generalize upd (l.map clX) k (setPg g) = R at hu hln ⊢
  generalize (l.filter fun x => decide (x.r.pgid = g)) = M at h48 hI hO
  generalize l.any (inG g l[k].r.sid) = I at hI ⊢
  generalize l.any (outG g l[k].r.sid) = O at hO ⊢
  simp at h48 hI hln hu h54
  by_cases c1 : l[k].r.sid = w
  · rw [if_pos (.inl c1)]
    simp [e0, e2, e7, e10, e11, hk, h48, hp, eq_true c1.symm]
  · by_cases c2 : l[k].r.sid = l[j].r.sid
    · rw [if_neg (by rintro (h | h); exact c1 h; exact h c2)]
      have nw : ¬ w = l[k].r.sid := fun h => c1 h.symm
      by_cases c3 : g = w
      · obtain ⟨Z3, hO⟩ := hO Z1
        simp at hO
        cases O
        · rw [if_neg (by simp), if_neg (by simp [c3])]
          simp [e0, e2, e7, e10, e11, hk, hj, h48, hp, nw, eq_true c2, eq_true c3, hO, h54, hu, hln, setPg]
        · rw [if_pos rfl]
          simp [e0, e2, e7, e10, e11, hk, hj, h48, hp, nw, eq_true c2, eq_true c3, hO]
      · cases I
        · rw [show (if O = true then ((none, 23) : Option (List Px) × Int) else if g ≠ w ∧ false = false then (none, 23) else (some R, 0)) = (none, 23) by cases O <;> simp [c3]]
          simp [e0, e2, e7, e10, e11, hk, hj, h48, hp, nw, eq_true c2, c3, hI]
        · obtain ⟨Z3, hO⟩ := hO (Z1 ++ Z2)
          simp at hO
          cases O
          · rw [if_neg (by simp), if_neg (by simp)]
            simp [e0, e2, e7, e10, e11, hk, hj, h48, hp, nw, eq_true c2, c3, hI, hO, h54, hu, hln, setPg]
          · rw [if_pos rfl]
            simp [e0, e2, e7, e10, e11, hk, hj, h48, hp, nw, eq_true c2, c3, hI, hO]
    · rw [if_pos (.inr c2)]
      have nw : ¬ w = l[k].r.sid := fun h => c1 h.symm
      simp [e0, e2, e7, e10, e11, hk, hj, h48, hp, nw, c2]
end Go.Proofs.YtgppkhbidcgnlaaDoor
