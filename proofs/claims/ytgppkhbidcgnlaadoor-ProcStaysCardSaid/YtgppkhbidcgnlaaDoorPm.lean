/- ProcMeans: Orphaned and Targets, on both sides. No condition. -/
import Derived.Test.YtgppkhbidcgnlaaDoorPv
namespace Go.Proofs.YtgppkhbidcgnlaaDoor
open Go.PI
set_option maxRecDepth 100000
set_option maxHeartbeats 8000000
set_option linter.unusedSimpArgs false
theorem c70 (r : Pr) : callW tbl 70 [encP r] = some (.bool (decide (r.state ≠ 3)), []) := by
  rw [call_run tbl (f := 70) (fn := f70) rfl _ rfl]
  by_cases h : r.state = 3
  · simp [f70, f70body, h]
  · simp [f70, f70body, h]
/-- the first place that fits, or -1 -/
def ixP (p : Pr → Bool) : List Pr → Nat → Int
  | [], _ => -1
  | x :: r, i => if p x = true then (i : Int) else ixP p r (i + 1)
theorem ixP_step {p : Pr → Bool} {l : List Pr} {i : Nat} (h : i < l.length) : ixP p (l.drop i) i = if p l[i] = true then (i : Int) else ixP p (l.drop (i + 1)) (i + 1) := by rw [drop_step h]; rfl
theorem ixP_spec (p : Pr → Bool) : ∀ (l : List Pr) (i : Nat), (ixP p l i = -1 ∧ ∀ x ∈ l, p x = false) ∨ ∃ k, ∃ h : k < l.length, ixP p l i = ((i + k : Nat) : Int) ∧ (∀ x ∈ l.take k, p x = false) ∧ p l[k] = true
  | [], i => .inl ⟨rfl, by simp⟩
  | x :: r, i => by
    rw [ixP]
    cases hx : p x
    · rcases ixP_spec p r (i + 1) with ⟨h1, h2⟩ | ⟨k, hk, h1, h2, h3⟩
      · refine .inl ⟨by simpa using h1, fun y hy => ?_⟩
        rcases List.mem_cons.1 hy with rfl | hy
        · exact hx
        · exact h2 y hy
      · refine .inr ⟨k + 1, by simpa using hk, by simp [h1]; omega, fun y hy => ?_, by simpa using h3⟩
        rw [List.take_succ_cons] at hy
        rcases List.mem_cons.1 hy with rfl | hy
        · exact hx
        · exact h2 y hy
    · exact .inr ⟨0, by simp, by simp, by simp, by simpa using hx⟩
abbrev isPid (n : Int) (r : Pr) : Bool := decide (r.pid = n)
theorem t41 (l : List Pr) (hl : l.length ≤ 1000000) (n : Int) : ∀ (k i : Nat), i + k = l.length → run tbl (.cl [.tmp 4]) [.blk 0, .seq (f41r7.seq .ret)] (.loop [0, 1, 5] f41b6) [(0, pl l), (1, .int .i64 n), (5, .int .i64 i)] [] = some (.int .i64 (ixP (isPid n) (l.drop i) i), [])
  | 0, i, h => by
    rw [run_loopD _ _ f41b6_eq]
    simp [show ¬ i < l.length by omega, show l.drop i = [] from List.drop_eq_nil_of_le (by omega), ixP]
  | k + 1, i, h => by
    have hi : i < l.length := by omega
    have ih := t41 l hl n k (i + 1) (by omega)
    rw [Int.natCast_succ] at ih
    rw [run_loopD _ _ f41b6_eq, ixP_step hi]
    by_cases e : l[i].pid = n
    · simp [hi, eq_true e]
    · simp [hi, e, wrapS i (by omega), ih]
theorem c41 (l : List Pr) (hl : l.length ≤ 1000000) (n : Int) : callW tbl 41 [pl l, .int .i64 n] = some (.int .i64 (ixP (isPid n) l 0), []) := by
  rw [call_run tbl (f := 41) (fn := f41) rfl _ rfl]
  have h := t41 l hl n l.length 0 (by omega)
  simp at h
  simp [f41, f41body, h]
/- the reference's Orphaned -/
abbrev qual (r : Pr) (g : Int) (q : Pr) : Prop := q.pid = r.ppid ∧ q.pgid ≠ g ∧ q.sid = r.sid
def orR (l : List Pr) (g : Int) : Nat → Nat → Bool
  | 0, _ => true
  | k + 1, i => if (atP l i).pgid ≠ g ∨ (atP l i).state = 3 then orR l g k (i + 1) else
      if 0 ≤ ixP (isPid (atP l i).ppid) l 0 ∧ (atP l (ixP (isPid (atP l i).ppid) l 0).toNat).pgid ≠ g ∧ (atP l (ixP (isPid (atP l i).ppid) l 0).toNat).sid = (atP l i).sid then false else orR l g k (i + 1)
theorem t30 (l : List Pr) (hl : l.length ≤ 1000000) (g : Int) : ∀ (k i : Nat) (H : List AO), i + k = l.length → run tbl (.cl [.tmp 4]) [.blk 0, .seq (f30r10.seq .ret)] (.loop [5, 0, 1] f30b9) [(5, .int .i64 i), (0, pl l), (1, .int .i64 g)] H = some (.bool (orR l g k i), [])
  | 0, i, H, h => by
    rw [run_loopD _ _ f30b9_eq]
    simp [show ¬ i < l.length by omega, orR]
  | k + 1, i, H, h => by
    have hi : i < l.length := by omega
    have ih := fun H => t30 l hl g k (i + 1) H (by omega)
    rw [Int.natCast_succ] at ih
    rw [run_loopD _ _ f30b9_eq, orR, atP_eq hi]
    by_cases h1 : l[i].pgid = g
    · by_cases h2 : l[i].state = 3
      · rw [if_pos (.inr h2)]
        simp [hi, eq_true h1, eq_true h2, wrapS i (by omega), ih]
      · rw [if_neg (by simp [h1, h2])]
        have h41 := c41 l hl l[i].ppid
        rcases ixP_spec (isPid l[i].ppid) l 0 with ⟨e, _⟩ | ⟨j, hj, e, _, _⟩
        · rw [e] at h41 ⊢
          rw [if_neg (by omega)]
          simp [hi, eq_true h1, h2, h41, wrapS i (by omega), ih]
        · rw [Nat.zero_add] at e
          rw [e] at h41 ⊢
          rw [show ((j : Int)).toNat = j by omega, atP_eq hj]
          by_cases h3 : l[j].pgid = g
          · rw [if_neg (fun x => x.2.1 h3)]
            simp [hi, eq_true h1, h2, h41, hj, eq_true h3, wrapS i (by omega), ih]
          · by_cases h4 : l[j].sid = l[i].sid
            · rw [if_pos ⟨by omega, h3, h4⟩]
              simp [hi, eq_true h1, h2, h41, hj, h3, eq_true h4]
            · rw [if_neg (fun x => h4 x.2.2)]
              simp [hi, eq_true h1, h2, h41, hj, h3, h4, wrapS i (by omega), ih]
    · rw [if_pos (.inl h1)]
      simp [hi, h1, wrapS i (by omega), ih]
theorem c30 (l : List Pr) (hl : l.length ≤ 1000000) (g : Int) : callW tbl 30 [pl l, .int .i64 g] = some (.bool (orR l g l.length 0), []) := by
  rw [call_run tbl (f := 30) (fn := f30) rfl _ rfl]
  have h := t30 l hl g l.length 0 [] (by omega)
  simp at h
  simp [f30, f30body, h]
/- the program's Orphaned -/
def orI (l : List Pr) (g : Int) (r : Pr) : Nat → Nat → Bool
  | 0, _ => false
  | k + 1, j => if qual r g (atP l j) then true else orI l g r k (j + 1)
theorem t29i (l : List Pr) (hl : l.length ≤ 1000000) (g : Int) (r : Pr) (i : Nat) (A : List AO) (K : List Fr) (R : Option (AV × List AO))
    (hR : ∀ (H : List AO) (e : Env), e.get 11 = .int .i64 i → e.get 10 = .int .i64 l.length → e.get 9 = pl l → e.get 1 = .int .i64 g → e.get 0 = pl l → run tbl (.cl [.tmp 4]) K f29r12 e H = R) :
    ∀ (k j : Nat) (Z : List AO), j + k = l.length → run tbl (.cl [.tmp 4]) (.blk 2 :: .blk 1 :: .seq f29r12 :: K) (.loop [25, 0, 9, 10, 11, 24, 1, 6, 26] f29b11) [(25, .int .i64 l.length), (0, pl l), (9, pl l), (10, .int .i64 l.length), (11, .int .i64 i), (24, pl l), (1, .int .i64 g), (6, .bptr A.length 0), (26, .int .i64 j)] (A ++ .box 30 13 (encP r) :: Z) = if orI l g r k j = true then some (.bool false, []) else R
  | 0, j, Z, h => by
    rw [run_loopD _ _ f29b11_eq, orI, if_neg (by simp)]
    simp [-f29r12_run, show ¬ j < l.length by omega]
    exact hR _ _ (by simp) (by simp) (by simp) (by simp) (by simp)
  | k + 1, j, Z, h => by
    have hj : j < l.length := by omega
    have ih := fun Z => t29i l hl g r i A K R hR k (j + 1) Z (by omega)
    rw [Int.natCast_succ] at ih
    rw [run_loopD _ _ f29b11_eq]
    by_cases h1 : l[j].pid = r.ppid
    · by_cases h2 : l[j].pgid = g
      · rw [show orI l g r (k + 1) j = orI l g r k (j + 1) by rw [orI, atP_eq hj, if_neg (fun x => x.2.1 h2)]]
        simp [-f29r12_run, hj, eq_true h1, eq_true h2, wrapS j (by omega), ih]
      · by_cases h3 : l[j].sid = r.sid
        · rw [show orI l g r (k + 1) j = true by rw [orI, atP_eq hj, if_pos ⟨h1, h2, h3⟩]]
          simp [-f29r12_run, hj, eq_true h1, h2, eq_true h3]
        · rw [show orI l g r (k + 1) j = orI l g r k (j + 1) by rw [orI, atP_eq hj, if_neg (fun x => h3 x.2.2)]]
          simp [-f29r12_run, hj, eq_true h1, h2, h3, wrapS j (by omega), ih]
    · rw [show orI l g r (k + 1) j = orI l g r k (j + 1) by rw [orI, atP_eq hj, if_neg (fun x => h1 x.1)]]
      simp [-f29r12_run, hj, h1, wrapS j (by omega), ih]
def orQ (l : List Pr) (g : Int) : Nat → Nat → Bool
  | 0, _ => true
  | k + 1, i => if (atP l i).pgid ≠ g ∨ (atP l i).state = 3 then orQ l g k (i + 1) else if orI l g (atP l i) l.length 0 = true then false else orQ l g k (i + 1)
theorem t29 (l : List Pr) (hl : l.length ≤ 1000000) (g : Int) : ∀ (k i : Nat) (H : List AO), i + k = l.length → run tbl (.cl [.tmp 4]) [.blk 0, .seq (f29r14.seq .ret)] (.loop [11, 10, 9, 1, 0] f29b13) [(11, .int .i64 i), (10, .int .i64 l.length), (9, pl l), (1, .int .i64 g), (0, pl l)] H = some (.bool (orQ l g k i), [])
  | 0, i, H, h => by
    rw [run_loopD _ _ f29b13_eq]
    simp [show ¬ i < l.length by omega, orQ]
  | k + 1, i, H, h => by
    have hi : i < l.length := by omega
    have ih := fun H => t29 l hl g k (i + 1) H (by omega)
    rw [Int.natCast_succ] at ih
    have h70 := c70 l[i]
    rw [run_loopD _ _ f29b13_eq]
    by_cases h1 : l[i].pgid = g
    · by_cases h2 : l[i].state = 3
      · rw [show orQ l g (k + 1) i = orQ l g k (i + 1) by rw [orQ, atP_eq hi, if_pos (.inr h2)]]
        simp [h2] at h70
        simp [hi, eq_true h1, h70, wrapS i (by omega), ih]
      · have hin := t29i l hl g l[i] i H [.lp [11, 10, 9, 1, 0] f29b13, .blk 0, .seq (f29r14.seq .ret)] (some (.bool (orQ l g k (i + 1)), [])) (fun H e e1 e2 e3 e4 e5 => by
          simp [e1, e2, e3, e4, e5, wrapS i (by omega), ih]) l.length 0 [] (by omega)
        rw [show orQ l g (k + 1) i = if orI l g l[i] l.length 0 = true then false else orQ l g k (i + 1) by rw [orQ, atP_eq hi, if_neg (by simp [h1, h2])]]
        generalize orI l g l[i] l.length 0 = B at hin ⊢
        simp [h2] at h70
        simp at hin
        cases B <;> simp at hin <;> simp [-f29r12_run, hi, eq_true h1, h70, hin]
    · rw [show orQ l g (k + 1) i = orQ l g k (i + 1) by rw [orQ, atP_eq hi, if_pos (.inl h1)]]
      simp [hi, h1, wrapS i (by omega), ih]
theorem c29 (l : List Pr) (hl : l.length ≤ 1000000) (g : Int) : callW tbl 29 [pl l, .int .i64 g] = some (.bool (orQ l g l.length 0), []) := by
  rw [call_run tbl (f := 29) (fn := f29) rfl _ rfl]
  have h := t29 l hl g l.length 0 [] (by omega)
  simp at h
  simp [f29, f29body, h]
/- what a valid list says -/
theorem vL_all (l : List Pr) : ∀ (k i : Nat), i + k = l.length → vL l k i = 0 → ∀ j, i ≤ j → j < l.length → oneR (atP l j) (prevP l j) = 0 ∧ relR l j (atP l j) = 0
  | 0, i, h, _, j, h1, h2 => by omega
  | k + 1, i, h, hv, j, h1, h2 => by
    rw [vL] at hv
    by_cases a : oneR (atP l i) (prevP l i) = 0
    · rw [if_neg (by simp [a])] at hv
      by_cases b : relR l i (atP l i) = 0
      · rw [if_neg (by simp [b])] at hv
        by_cases e : j = i
        · subst e; exact ⟨a, b⟩
        · exact vL_all l k (i + 1) (by omega) hv j (by omega) h2
      · rw [if_pos b] at hv
        exact absurd hv b
    · rw [if_pos a] at hv
      exact absurd hv a
theorem oneR_zero {r : Pr} {q : Option Int} (h : oneR r q = 0) : fieldB r = true ∧ (∀ n, q = some n → n < r.pid) ∧ oneT r = 0 := by
  unfold oneR at h
  by_cases a : fieldB r = false
  · rw [if_pos a] at h; omega
  · rw [if_neg a] at h
    simp only [Bool.not_eq_false] at a
    refine ⟨a, ?_⟩
    cases q with
    | none =>
      simp only [Bool.false_eq_true, if_false] at h
      exact ⟨fun n hn => (by cases hn), h⟩
    | some n =>
      simp only at h
      by_cases b : r.pid ≤ n
      · rw [if_pos (by simpa using b)] at h; omega
      · rw [if_neg (by simpa using b)] at h
        exact ⟨fun m hm => (by cases hm; omega), h⟩
/-- a valid list -/
structure OkP (l : List Pr) : Prop where
  asc : l.Pairwise (fun a b => a.pid < b.pid)
  all : ∀ j, j < l.length → oneR (atP l j) (prevP l j) = 0 ∧ relR l j (atP l j) = 0
  ne : l ≠ []
  hd : (atP l 0).pid = 1 ∧ (atP l 0).ppid = 0 ∧ (atP l 0).state = 1
  len : l.length ≤ 64
theorem asc_of {l : List Pr} (h : ∀ j, j < l.length → oneR (atP l j) (prevP l j) = 0) : l.Pairwise (fun a b => a.pid < b.pid) := by
  rw [List.pairwise_iff_getElem]
  intro i j hi hj hij
  induction j with
  | zero => omega
  | succ j ih =>
    have h1 := (oneR_zero (h (j + 1) hj)).2.1 l[j].pid (by
      unfold prevP
      rw [if_neg (by omega), show j + 1 - 1 = j by omega, List.getElem?_eq_getElem (by omega)]
      rfl)
    rw [atP_eq hj] at h1
    by_cases e : i = j
    · subst e; exact h1
    · have := ih (by omega) (by omega); omega
theorem ok_of_vR {l : List Pr} (h : vR l = 0) : OkP l := by
  unfold vR at h
  by_cases a : 64 < l.length
  · rw [if_pos a] at h; omega
  · rw [if_neg a] at h
    by_cases b : l = [] ∨ (atP l 0).pid ≠ 1 ∨ (atP l 0).ppid ≠ 0 ∨ (atP l 0).state ≠ 1
    · rw [if_pos b] at h; omega
    · rw [if_neg b] at h
      have ha := fun j hj => vL_all l l.length 0 (by omega) h j (by omega) hj
      simp only [not_or, ne_eq, Classical.not_not] at b
      exact ⟨asc_of fun j hj => (ha j hj).1, ha, b.1, b.2, by omega⟩
theorem uniq {l : List Pr} (h : l.Pairwise (fun a b => a.pid < b.pid)) {i j : Nat} (hi : i < l.length) (hj : j < l.length) (e : l[i].pid = l[j].pid) : i = j := by
  rw [List.pairwise_iff_getElem] at h
  rcases Nat.lt_trichotomy i j with c | c | c
  · have := h i j hi hj c; omega
  · exact c
  · have := h j i hj hi c; omega
/- Orphaned is the same -/
theorem orI_iff {l : List Pr} {g : Int} {r : Pr} : ∀ (k j : Nat), j + k = l.length → (orI l g r k j = true ↔ ∃ m, j ≤ m ∧ m < l.length ∧ qual r g (atP l m))
  | 0, j, h => by rw [orI]; exact ⟨fun x => (by cases x), fun ⟨m, a, b, _⟩ => (by omega)⟩
  | k + 1, j, h => by
    rw [orI]
    by_cases c : qual r g (atP l j)
    · rw [if_pos c]
      exact ⟨fun _ => ⟨j, by omega, by omega, c⟩, fun _ => rfl⟩
    · rw [if_neg c, orI_iff k (j + 1) (by omega)]
      constructor
      · rintro ⟨m, a, b, d⟩; exact ⟨m, by omega, b, d⟩
      · rintro ⟨m, a, b, d⟩
        refine ⟨m, ?_, b, d⟩
        by_cases e : m = j
        · subst e; exact absurd d c
        · omega
theorem orQ_eq {l : List Pr} (ha : l.Pairwise (fun a b => a.pid < b.pid)) (g : Int) : ∀ (k i : Nat), i + k = l.length → orQ l g k i = orR l g k i
  | 0, _, _ => rfl
  | k + 1, i, h => by
    have hi : i < l.length := by omega
    have ih := orQ_eq ha g k (i + 1) (by omega)
    rw [orQ, orR, ih]
    by_cases c : (atP l i).pgid ≠ g ∨ (atP l i).state = 3
    · rw [if_pos c, if_pos c]
    · rw [if_neg c, if_neg c]
      have key : orI l g (atP l i) l.length 0 = true ↔ (0 ≤ ixP (isPid (atP l i).ppid) l 0 ∧ (atP l (ixP (isPid (atP l i).ppid) l 0).toNat).pgid ≠ g ∧ (atP l (ixP (isPid (atP l i).ppid) l 0).toNat).sid = (atP l i).sid) := by
        rw [orI_iff l.length 0 (by omega)]
        rcases ixP_spec (isPid (atP l i).ppid) l 0 with ⟨e, hn⟩ | ⟨j, hj, e, _, hp⟩
        · rw [e]
          constructor
          · rintro ⟨m, _, hm, hq⟩
            rw [atP_eq hm] at hq
            have := hn l[m] (List.getElem_mem hm)
            simp [isPid, hq.1] at this
          · rintro ⟨h0, _⟩; omega
        · rw [Nat.zero_add] at e
          rw [e, show ((j : Int)).toNat = j by omega]
          have hpj : l[j].pid = (atP l i).ppid := by simpa [isPid] using hp
          constructor
          · rintro ⟨m, _, hm, hq⟩
            have hmj : m = j := uniq ha hm hj (by rw [atP_eq hm] at hq; rw [hq.1, hpj])
            subst hmj
            exact ⟨by omega, hq.2⟩
          · rintro ⟨_, h1, h2⟩
            exact ⟨j, by omega, hj, by rw [atP_eq hj]; exact hpj, h1, h2⟩
      by_cases d : orI l g (atP l i) l.length 0 = true
      · rw [if_pos d, if_pos (key.1 d)]
      · rw [if_neg d, if_neg (fun x => d (key.2 x))]
end Go.Proofs.YtgppkhbidcgnlaaDoor
