/- Signals, in this seat: the program's Valid (turned from the signal seat's texts by a program). No condition. -/
import Derived.Test.YtgppkhbidcgnlaaDoorPx
namespace Go.Proofs.YtgppkhbidcgnlaaDoor
open Go.PI
set_option maxRecDepth 100000
set_option maxHeartbeats 8000000
set_option linter.unusedSimpArgs false
def ixL (p : Int → Bool) : List Int → Nat → Int
  | [], _ => -1
  | x :: r, i => if p x = true then (i : Int) else ixL p r (i + 1)
theorem ixL_step {p : Int → Bool} {l : List Int} {i : Nat} (h : i < l.length) : ixL p (l.drop i) i = if p l[i] = true then (i : Int) else ixL p (l.drop (i + 1)) (i + 1) := by rw [drop_step h]; rfl
theorem ixL_any (p : Int → Bool) : ∀ (l : List Int) (i : Nat), decide (0 ≤ ixL p l i) = l.any p
  | [], i => by simp [ixL]
  | x :: r, i => by
    rw [ixL, List.any_cons]
    cases hx : p x
    · simp
      have := ixL_any p r (i + 1)
      simpa using this
    · simp
theorem t104 (l : List Int) (hl : l.length ≤ 1000000) (n : Int) : ∀ (k i : Nat), i + k = l.length → run tbl (.cl [.tmp 4]) [.blk 0, .seq (f104r8.seq .ret)] (.loop [7, 1, 0, 8] f104b7) [(7, .int .i64 l.length), (1, .int .i64 n), (0, il l), (8, .int .i64 i)] [] = some (.int .i64 (ixL (fun m => decide (n = m)) (l.drop i) i), [])
  | 0, i, h => by
    rw [run_loopD _ _ f104b7_eq]
    simp [show ¬ i < l.length by omega, show l.drop i = [] from List.drop_eq_nil_of_le (by omega), ixL]
  | k + 1, i, h => by
    have hi : i < l.length := by omega
    have ih := t104 l hl n k (i + 1) (by omega)
    rw [Int.natCast_succ] at ih
    rw [run_loopD _ _ f104b7_eq, ixL_step hi]
    by_cases e : n = l[i]
    · simp [hi, eq_true e]
    · simp [hi, e, wrapS i (by omega), ih]
theorem c96 (l : List Int) (hl : l.length ≤ 1000000) (n : Int) : callW tbl 96 [il l, .int .i64 n] = some (.bool (decide (n ∈ l)), []) := by
  have h51 : callW tbl 104 [il l, .int .i64 n] = some (.int .i64 (ixL (fun m => decide (n = m)) l 0), []) := by
    rw [call_run tbl (f := 104) (fn := f104) rfl _ rfl]
    have h := t104 l hl n l.length 0 (by omega)
    simp at h
    simp [f104, f104body, h]
  rw [call_run tbl (f := 96) (fn := f96) rfl _ rfl]
  have e := ixL_any (fun m => decide (n = m)) l 0
  have e2 : l.any (fun m => decide (n = m)) = decide (n ∈ l) := by
    by_cases hm : n ∈ l
    · simp only [hm, decide_true]; exact List.any_eq_true.2 ⟨n, hm, by simp⟩
    · simp only [hm, decide_false]; exact List.any_eq_false.2 fun m hm' => by simp; intro e; subst e; exact hm hm'
  rw [e2] at e
  by_cases h0 : 0 ≤ ixL (fun m => decide (n = m)) l 0
  · simp [h0] at e
    simp [f96, f96body, h51, h0, e]
  · simp [h0] at e
    simp [f96, f96body, h51, h0, e]
theorem t103 (l : List Int) (hl : l.length ≤ 1000000) (f : Nat) (caps : List AV) (p : Int → Bool) (H : List AO) (hp : ∀ m, callV tbl f (.int .i64 m :: caps) H = some (.bool (p m), H)) : ∀ (k i : Nat), i + k = l.length → run tbl (.op [.tmp 4]) [.blk 0, .seq (f103r8.seq .ret)] (.loop [7, 1, 0, 8] f103b7) [(7, .int .i64 l.length), (1, .fn f caps), (0, il l), (8, .int .i64 i)] H = some (.int .i64 (ixL p (l.drop i) i), H)
  | 0, i, h => by
    rw [run_loopD _ _ f103b7_eq]
    simp [show ¬ i < l.length by omega, show l.drop i = [] from List.drop_eq_nil_of_le (by omega), ixL]
  | k + 1, i, h => by
    have hi : i < l.length := by omega
    have ih := t103 l hl f caps p H hp k (i + 1) (by omega)
    rw [Int.natCast_succ] at ih
    rw [run_loopD _ _ f103b7_eq, ixL_step hi]
    cases e : p l[i]
    · simp [hi, hp, e, wrapS i (by omega), ih]
    · simp [hi, hp, e]
theorem c103 (l : List Int) (hl : l.length ≤ 1000000) (f : Nat) (caps : List AV) (p : Int → Bool) (H : List AO) (hp : ∀ m, callV tbl f (.int .i64 m :: caps) H = some (.bool (p m), H)) : callV tbl 103 [il l, .fn f caps] H = some (.int .i64 (ixL p l 0), H) := by
  rw [callV_run tbl (f := 103) (fn := f103) rfl _ _ rfl]
  have h := t103 l hl f caps p H hp l.length 0 (by omega)
  simp at h
  simp [f103, f103body, h]
theorem c93 (l : List Int) (hl : l.length ≤ 1000000) (f : Nat) (caps : List AV) (p : Int → Bool) (H : List AO) (hp : ∀ m, callV tbl f (.int .i64 m :: caps) H = some (.bool (p m), H)) : callV tbl 93 [il l, .fn f caps] H = some (.bool (l.any p), H) := by
  rw [callV_run tbl (f := 93) (fn := f93) rfl _ _ rfl]
  have h := c103 l hl f caps p H hp
  have e := ixL_any p l 0
  by_cases h0 : 0 ≤ ixL p l 0
  · simp only [h0, decide_true] at e
    simp [f93, f93body, h, h0, ← e]
  · simp only [h0, decide_false] at e
    simp [f93, f93body, h, h0, ← e]
theorem cv97 (m : Int) (H : List AO) : callV tbl 97 [.int .i64 m] H = some (.bool (stp' m), H) := by
  rw [callV_run tbl (f := 97) (fn := f97) rfl _ _ rfl]
  by_cases h1 : m = 19
  · simp [f97, f97body, stp', h1]
  by_cases h2 : m = 20
  · simp [f97, f97body, stp', h2]
  by_cases h3 : m = 4
  · simp [f97, f97body, stp', h3]
  by_cases h4 : m = 5
  · simp [f97, f97body, stp', h4]
  · simp [f97, f97body, stp', h1, h2, h3, h4]
def fx (m : Int) : Bool := decide (m = 9) || decide (m = 19)
theorem cv94 (m : Int) (H : List AO) : callV tbl 94 [.int .i64 m] H = some (.bool (fx m), H) := by
  rw [callV_run tbl (f := 94) (fn := f94) rfl _ _ rfl]
  by_cases h1 : m = 9
  · simp [f94, f94body, fx, h1]
  by_cases h2 : m = 19
  · simp [f94, f94body, fx, h2]
  · simp [f94, f94body, fx, h1, h2]
theorem c94 (m : Int) : callW tbl 94 [.int .i64 m] = some (.bool (fx m), []) := by
  rw [call_run tbl (f := 94) (fn := f94) rfl _ rfl]
  by_cases h1 : m = 9
  · simp [f94, f94body, fx, h1]
  by_cases h2 : m = 19
  · simp [f94, f94body, fx, h2]
  · simp [f94, f94body, fx, h1, h2]
theorem bad1_no {i c : List Int} : ∀ (k n : Nat), bad1 i c k n = false → ∀ m : Nat, n ≤ m → m < n + k → ¬ (((m : Int) = 9 ∨ (m : Int) = 19) ∧ ((m : Int) ∈ i ∨ (m : Int) ∈ c) ∨ (m : Int) ∈ i ∧ (m : Int) ∈ c)
  | 0, n, _, m, h1, h2 => by omega
  | k + 1, n, h, m, h1, h2 => by
    rw [bad1] at h
    split at h
    · cases h
    · rename_i hc
      by_cases e : m = n
      · subst e; exact hc
      · exact bad1_no k (n + 1) h m (by omega) (by omega)
theorem bad1_yes {i c : List Int} : ∀ (k n : Nat), (∀ m : Nat, n ≤ m → m < n + k → ¬ (((m : Int) = 9 ∨ (m : Int) = 19) ∧ ((m : Int) ∈ i ∨ (m : Int) ∈ c) ∨ (m : Int) ∈ i ∧ (m : Int) ∈ c)) → bad1 i c k n = false
  | 0, _, _ => rfl
  | k + 1, n, h => by
    rw [bad1, if_neg (h n (Nat.le_refl _) (by omega))]
    exact bad1_yes k (n + 1) (fun m h1 h2 => h m (by omega) (by omega))
theorem bad2_no {p i : List Int} : ∀ (k n : Nat), bad2 p i k n = false → ∀ m : Nat, n ≤ m → m < n + k → ¬ (((m : Int) ≠ 18 ∧ (m : Int) ∈ p ∧ (m : Int) ∈ i) ∨ (stp' m = true ∧ (m : Int) ∈ p ∧ (18 : Int) ∈ p))
  | 0, n, _, m, h1, h2 => by omega
  | k + 1, n, h, m, h1, h2 => by
    rw [bad2] at h
    split at h
    · cases h
    · rename_i hc
      by_cases e : m = n
      · subst e; exact hc
      · exact bad2_no k (n + 1) h m (by omega) (by omega)
theorem bad2_yes {p i : List Int} : ∀ (k n : Nat), (∀ m : Nat, n ≤ m → m < n + k → ¬ (((m : Int) ≠ 18 ∧ (m : Int) ∈ p ∧ (m : Int) ∈ i) ∨ (stp' m = true ∧ (m : Int) ∈ p ∧ (18 : Int) ∈ p))) → bad2 p i k n = false
  | 0, _, _ => rfl
  | k + 1, n, h => by
    rw [bad2, if_neg (h n (Nat.le_refl _) (by omega))]
    exact bad2_yes k (n + 1) (fun m h1 h2 => h m (by omega) (by omega))
theorem c96' {a : AV} {l : List Int} (hl : l.length ≤ 1000000) (ha : IsL a l) (n : Int) : callW tbl 96 [a, .int .i64 n] = some (.bool (decide (n ∈ l)), []) := by
  cases ha with
  | il => exact c96 l hl n
  | e0 =>
    have h51 : callW tbl 104 [.e0, .int .i64 n] = some (.int .i64 (-1), []) := by
      rw [call_run tbl (f := 104) (fn := f104) rfl _ rfl]
      simp [f104, f104body]
      rw [run_loopD _ _ f104b7_eq]
      simp
    rw [call_run tbl (f := 96) (fn := f96) rfl _ rfl]
    simp [f96, f96body, h51]
theorem c93' {a : AV} {l : List Int} (hl : l.length ≤ 1000000) (ha : IsL a l) (f : Nat) (caps : List AV) (p : Int → Bool) (H : List AO) (hp : ∀ m, callV tbl f (.int .i64 m :: caps) H = some (.bool (p m), H)) : callV tbl 93 [a, .fn f caps] H = some (.bool (l.any p), H) := by
  cases ha with
  | il => exact c93 l hl f caps p H hp
  | e0 =>
    have h54 : callV tbl 103 [.e0, .fn f caps] H = some (.int .i64 (-1), H) := by
      rw [callV_run tbl (f := 103) (fn := f103) rfl _ _ rfl]
      simp [f103, f103body]
      rw [run_loopD _ _ f103b7_eq]
      simp
    rw [callV_run tbl (f := 93) (fn := f93) rfl _ _ rfl]
    simp [f93, f93body, h54]
theorem cv95' (m : Int) {a b d : AV} {c : List Int} (hc : c.length ≤ 1000) (hd : IsL d c) (Z : List AO) : callV tbl 95 [.int .i64 m, .bptr 0 0] (.box 27 3 (.agg [a, b, d]) :: Z) = some (.bool (decide (m ∈ c)), .box 27 3 (.agg [a, b, d]) :: Z) := by
  rw [callV_run tbl (f := 95) (fn := f95) rfl _ _ rfl]
  have h := c96' (by omega) hd m
  cases hd <;> (try simp at h) <;> simp [f95, f95body, h]
theorem t80 {a : AV} {l : List Int} (hl : l.length ≤ 1000) (ha : IsL a l) (i : Int) (K : List Fr) (H : List AO) (R : Option (AV × List AO)) (hR : ∀ e : Env, e.get 16 = .int .i64 3 → e.get 1 = .bptr 0 0 → e.get 15 = .ref 1 0 0 3 → e.get 17 = .int .i64 i → run tbl (.cl [.tmp 2]) K f80r11 e H = R) :
    ∀ k j : Nat, j + k = l.length → run tbl (.cl [.tmp 2]) (.blk 2 :: .blk 1 :: .seq f80r11 :: K) (.loop [22, 15, 1, 16, 17, 21, 4, 23] f80b10) [(22, .int .i64 l.length), (15, .ref 1 0 0 3), (1, .bptr 0 0), (16, .int .i64 3), (17, .int .i64 i), (21, a), (4, a), (23, .int .i64 j)] H = if lsf l k j = true then R else some (.int .i64 1, [])
  | 0, j, h => by
    rw [run_loopD _ _ f80b10_eq, lsf, if_pos rfl]
    simp [-f80r11_run, show ¬ j < l.length by omega]
    exact hR _ (by simp) (by simp) (by simp) (by simp)
  | k + 1, j, h => by
    have hj : j < l.length := by omega
    have ih := t80 hl ha i K H R hR k (j + 1) (by omega)
    cases ha with
    | e0 => simp at h
    | il =>
      rw [Int.natCast_succ] at ih
      have hc := c92 l[j]
      rw [run_loopD _ _ f80b10_eq]
      unfold kn at hc
      by_cases h1 : nm l[j] = []
      · rw [show lsf l (k + 1) j = false by rw [lsf, at0_eq hj, if_pos (.inl h1)], if_neg (by simp)]
        simp [h1] at hc
        simp [-f80r11_run, hj, hc]
      · simp [h1] at hc
        rcases j with _ | m
        · rw [show lsf l (k + 1) 0 = lsf l k (0 + 1) by rw [lsf, at0_eq hj, if_neg (by rintro (hh | ⟨hh, _⟩); exact h1 hh; omega)]]
          generalize lsf l k (0 + 1) = B at ih ⊢
          simp at hc ih
          simp [-f80r11_run, hj, hc, h1, ih]
        · have hm : m < l.length := by omega
          have w1 := wrapN m (by omega)
          have ws := wrapS (m + 1) (by omega)
          by_cases h2 : l[m + 1] ≤ l[m]
          · rw [show lsf l (k + 1) (m + 1) = false by rw [lsf, at0_eq hj, show m + 1 - 1 = m by omega, at0_eq hm, if_pos (.inr ⟨by omega, h2⟩)], if_neg (by simp)]
            simp at ws hc
            simp [-f80r11_run, hj, hm, show (m : Int) + 1 < l.length by omega, show (0 : Int) ≤ (m : Int) + 1 by omega, show (0 : Int) < (m : Int) + 1 by omega, hc, h1, w1, ws, h2]
          · rw [show lsf l (k + 1) (m + 1) = lsf l k (m + 1 + 1) by rw [lsf, at0_eq hj, show m + 1 - 1 = m by omega, at0_eq hm, if_neg (by rintro (hh | ⟨_, hh⟩); exact h1 hh; exact h2 hh)]]
            generalize lsf l k (m + 1 + 1) = B at ih ⊢
            simp at ws hc ih
            simp [-f80r11_run, hj, hm, show (m : Int) + 1 < l.length by omega, show (0 : Int) ≤ (m : Int) + 1 by omega, show (0 : Int) < (m : Int) + 1 by omega, hc, h1, w1, ws, h2, ih]
abbrev tail80d : IC := (f80r24.seq (.cond (.t 81) (f80r25.seq .ret) .skip)).seq (f80r26.seq .ret)
abbrev tail80c : IC := (f80r17.seq (.block 4 (.loop [60, 59, 1, 61] f80b23))).seq tail80d
abbrev tail80b : IC := (f80r15.seq (.cond (.t 57) (f80r16.seq .ret) .skip)).seq tail80c
abbrev tail80 : IC := (f80r13.seq (.cond (.t 53) (f80r14.seq .ret) .skip)).seq tail80b
def vp (p i : List Int) : Nat → Nat → Bool
  | 0, _ => false
  | k + 1, j => if at0 p j ≠ 18 ∧ at0 p j ∈ i then true else vp p i k (j + 1)
def vd4 (p : List Int) : Int := if 18 ∈ p ∧ p.any stp' = true then 25 else 0
def vd3 (p i : List Int) : Int := if vp p i p.length 0 = true then 25 else vd4 p
def vd2 (p i c : List Int) : Int := if i.any (fun m => decide (m ∈ c)) = true then 1 else vd3 p i
def vd1 (p i c : List Int) : Int := if i.any fx = true ∨ c.any fx = true then 1 else vd2 p i c
theorem t80d {a b d : AV} {p : List Int} (lp : p.length ≤ 1000) (ha : IsL a p) (Z : List AO) (e : Env) (e1 : e.get 1 = .bptr 0 0) : run tbl (.cl [.tmp 2]) [] tail80d e (.box 27 3 (.agg [a, b, d]) :: Z) = some (.int .i64 (vd4 p), []) := by
  have h39 := c96' (by omega) ha 18
  have h48 := c93' (by omega) ha 97 [] stp' (.box 27 3 (.agg [a, b, d]) :: Z) (fun m => cv97 m _)
  unfold vd4
  by_cases h : 18 ∈ p
  · simp [h] at h39
    cases hs : p.any stp'
    · rw [hs] at h48
      rw [if_neg (by simp)]
      cases ha <;> (try simp at h39 h48) <;> simp [e1, h39, h48]
    · rw [hs] at h48
      rw [if_pos ⟨h, rfl⟩]
      cases ha <;> (try simp at h39 h48) <;> simp [e1, h39, h48]
  · simp [h] at h39
    rw [if_neg (fun x => h x.1)]
    cases ha <;> (try simp at h39 h48) <;> simp [e1, h39]
theorem t80c {a b d : AV} {p i : List Int} (lp : p.length ≤ 1000) (li : i.length ≤ 1000) (ha : IsL a p) (hb : IsL b i) (Z : List AO) : ∀ k j : Nat, j + k = p.length → run tbl (.cl [.tmp 2]) [.blk 4, .seq tail80d] (.loop [60, 59, 1, 61] f80b23) [(60, .int .i64 p.length), (59, a), (1, .bptr 0 0), (61, .int .i64 j)] (.box 27 3 (.agg [a, b, d]) :: Z) = some (.int .i64 (if vp p i k j = true then 25 else vd4 p), [])
  | 0, j, h => by
    rw [run_loopD _ _ f80b23_eq, vp, if_neg (by simp)]
    have ht := t80d (b := b) (d := d) lp ha Z
    generalize vd4 p = V at ht ⊢
    simp [-f80r24_run, show ¬ j < p.length by omega]
    rw [← run_seq, ← run_seq]
    exact ht _ (by simp)
  | k + 1, j, h => by
    have hj : j < p.length := by omega
    have ih := t80c (d := d) lp li ha hb Z k (j + 1) (by omega)
    have h39 := c96' (by omega) hb p[j]
    generalize vd4 p = V at ih ⊢
    cases ha with
    | e0 => simp at h
    | il =>
      rw [Int.natCast_succ] at ih
      rw [run_loopD _ _ f80b23_eq]
      by_cases h1 : p[j] = 18
      · rw [show vp p i (k + 1) j = vp p i k (j + 1) by rw [vp, at0_eq hj, if_neg (fun x => x.1 h1)]]
        generalize vp p i k (j + 1) = B at ih ⊢
        cases hb <;> simp [-f80r24_run, hj, h1, wrapS j (by omega), ih]
      · by_cases h2 : p[j] ∈ i
        · rw [show vp p i (k + 1) j = true by rw [vp, at0_eq hj, if_pos ⟨h1, h2⟩]]
          simp [h2] at h39
          cases hb <;> (try simp at h39) <;> simp [-f80r24_run, hj, h1, h39]
        · rw [show vp p i (k + 1) j = vp p i k (j + 1) by rw [vp, at0_eq hj, if_neg (fun x => h2 x.2)]]
          generalize vp p i k (j + 1) = B at ih ⊢
          simp [h2] at h39
          cases hb <;> (try simp at h39) <;> simp [-f80r24_run, hj, h1, h39, wrapS j (by omega), ih]
theorem t80b {a b d : AV} {p i c : List Int} (lp : p.length ≤ 1000) (li : i.length ≤ 1000) (lc : c.length ≤ 1000) (ha : IsL a p) (hb : IsL b i) (hd : IsL d c) (Z : List AO) (e : Env) (e1 : e.get 1 = .bptr 0 0) : run tbl (.cl [.tmp 2]) [] tail80 e (.box 27 3 (.agg [a, b, d]) :: Z) = some (.int .i64 (vd1 p i c), []) := by
  have h1 := c93' (by omega) hb 94 [] fx (.box 27 3 (.agg [a, b, d]) :: Z) (fun m => cv94 m _)
  have h2 := c93' (by omega) hd 94 [] fx (.box 27 3 (.agg [a, b, d]) :: Z) (fun m => cv94 m _)
  have h3 := c93' (by omega) hb 95 [.bptr 0 0] (fun m => decide (m ∈ c)) (.box 27 3 (.agg [a, b, d]) :: Z) (fun m => cv95' m lc hd Z)
  have ht := t80c (d := d) lp li ha hb Z p.length 0 (by omega)
  unfold vd1 vd2 vd3
  generalize i.any fx = b1 at h1 ⊢
  generalize c.any fx = b2 at h2 ⊢
  generalize i.any (fun m => decide (m ∈ c)) = b3 at h3 ⊢
  generalize (if vp p i p.length 0 = true then (25 : Int) else vd4 p) = V at ht ⊢
  cases b1
  · cases b2
    · cases b3
      · rw [if_neg (by simp), if_neg (by simp)]
        cases ha <;> (try simp at ht) <;> simp [-f80r24_run, e1, h1, h2, h3, ht]
      · rw [if_neg (by simp), if_pos rfl]
        simp [e1, h1, h2, h3]
    · rw [if_pos (by simp)]
      simp [e1, h1, h2]
  · rw [if_pos (by simp)]
    simp [e1, h1]
/-- what the program's Valid gives -/
def vd0 (p i c : List Int) : Int := if lsf p p.length 0 = true then (if lsf i i.length 0 = true then (if lsf c c.length 0 = true then vd1 p i c else 1) else 1) else 1
theorem c80 {a b d : AV} {p i c : List Int} (lp : p.length ≤ 1000) (li : i.length ≤ 1000) (lc : c.length ≤ 1000) (ha : IsL a p) (hb : IsL b i) (hd : IsL d c) : callW tbl 80 [.agg [a, b, d]] = some (.int .i64 (vd0 p i c), []) := by
  rw [call_run tbl (f := 80) (fn := f80) rfl _ rfl]
  let H : List AO := [.box 27 3 (.agg [a, b, d]), .row 25 1 0 [a, b, d]]
  let K : List Fr := [.lp [16, 1, 15, 17] f80b12, .blk 0, .seq tail80]
  have ht := t80b lp li lc ha hb hd [.row 25 1 0 [a, b, d]]
  have r3 : ∀ e : Env, e.get 16 = .int .i64 3 → e.get 1 = .bptr 0 0 → e.get 15 = .ref 1 0 0 3 → e.get 17 = .int .i64 2 → run tbl (.cl [.tmp 2]) K f80r11 e H = some (.int .i64 (vd1 p i c), []) := by
    intro e g1 g2 g3 g4
    simp only [K, H]
    simp [-f80r13_run, g1, g2, g3, g4]
    rw [run_loopD _ _ f80b12_eq]
    simp [-f80r13_run]
    rw [← run_seq, ← run_seq]
    exact ht _ (by simp)
  have s3 := t80 lc hd 2 K H _ r3 c.length 0 (by omega)
  have r2 : ∀ e : Env, e.get 16 = .int .i64 3 → e.get 1 = .bptr 0 0 → e.get 15 = .ref 1 0 0 3 → e.get 17 = .int .i64 1 → run tbl (.cl [.tmp 2]) K f80r11 e H = if lsf c c.length 0 = true then some (.int .i64 (vd1 p i c), []) else some (.int .i64 1, []) := by
    intro e g1 g2 g3 g4
    simp only [K, H] at s3 ⊢
    simp [-f80r13_run, g1, g2, g3, g4]
    rw [run_loopD _ _ f80b12_eq]
    cases hd <;> (try simp at s3) <;> simp [-f80r13_run, s3]
  have s2 := t80 li hb 1 K H _ r2 i.length 0 (by omega)
  have r1 : ∀ e : Env, e.get 16 = .int .i64 3 → e.get 1 = .bptr 0 0 → e.get 15 = .ref 1 0 0 3 → e.get 17 = .int .i64 0 → run tbl (.cl [.tmp 2]) K f80r11 e H = if lsf i i.length 0 = true then (if lsf c c.length 0 = true then some (.int .i64 (vd1 p i c), []) else some (.int .i64 1, [])) else some (.int .i64 1, []) := by
    intro e g1 g2 g3 g4
    simp only [K, H] at s2 ⊢
    simp [-f80r13_run, g1, g2, g3, g4]
    rw [run_loopD _ _ f80b12_eq]
    cases hb <;> (try simp at s2) <;> simp [-f80r13_run, s2]
  have s1 := t80 lp ha 0 K H _ r1 p.length 0 (by omega)
  unfold vd0
  have s1' : run tbl (.cl [.tmp 2]) [.blk 0, .seq tail80] (.loop [16, 1, 15, 17] f80b12) [(16, .int .i64 3), (1, .bptr 0 0), (15, .ref 1 0 0 3), (17, .int .i64 0)] H = some (.int .i64 (if lsf p p.length 0 = true then (if lsf i i.length 0 = true then (if lsf c c.length 0 = true then vd1 p i c else 1) else 1) else 1), []) := by
    rw [run_loopD _ _ f80b12_eq]
    simp only [K, H] at s1 ⊢
    generalize lsf p p.length 0 = b1 at s1 ⊢
    generalize lsf i i.length 0 = b2 at s1 ⊢
    generalize lsf c c.length 0 = b3 at s1 ⊢
    cases b1 <;> cases b2 <;> cases b3 <;> cases ha <;> (try simp at s1) <;> simp [-f80r13_run, s1]
  simp only [H] at s1'
  generalize (if lsf p p.length 0 = true then (if lsf i i.length 0 = true then (if lsf c c.length 0 = true then vd1 p i c else 1) else 1) else 1) = V at s1' ⊢
  cases ha <;> cases hb <;> cases hd <;> (try simp at s1') <;> simp [-f80r13_run, f80, f80body, s1']
theorem vp_iff {p i : List Int} : ∀ (k j : Nat), j + k = p.length → (vp p i k j = true ↔ ∃ m ∈ p.drop j, m ≠ 18 ∧ m ∈ i)
  | 0, j, h => by rw [vp, List.drop_eq_nil_of_le (by omega)]; simp
  | k + 1, j, h => by
    have hj : j < p.length := by omega
    rw [vp, at0_eq hj, drop_step hj]
    by_cases hc : p[j] ≠ 18 ∧ p[j] ∈ i
    · rw [if_pos hc]
      exact ⟨fun _ => ⟨p[j], List.mem_cons_self .., hc⟩, fun _ => rfl⟩
    · rw [if_neg hc, vp_iff k (j + 1) (by omega)]
      constructor
      · rintro ⟨m, hm, h2⟩; exact ⟨m, List.mem_cons_of_mem _ hm, h2⟩
      · rintro ⟨m, hm, h2⟩
        rcases List.mem_cons.1 hm with rfl | hm
        · exact absurd h2 hc
        · exact ⟨m, hm, h2⟩
theorem bad1_iff {i c : List Int} (ai : Asc i) (ac : Asc c) : bad1 i c 20 1 = true ↔ (i.any fx = true ∨ c.any fx = true) ∨ i.any (fun m => decide (m ∈ c)) = true := by
  have fxo : ∀ {m : Int}, fx m = true ↔ m = 9 ∨ m = 19 := fun {m} => by simp [fx]
  constructor
  · intro h
    apply Classical.byContradiction
    intro hn
    have : bad1 i c 20 1 = false := by
      refine bad1_yes 20 1 fun m _ _ hh => hn ?_
      rcases hh with ⟨h9, hm | hm⟩ | ⟨hi, hc⟩
      · exact .inl (.inl (List.any_eq_true.2 ⟨m, hm, fxo.2 h9⟩))
      · exact .inl (.inr (List.any_eq_true.2 ⟨m, hm, fxo.2 h9⟩))
      · exact .inr (List.any_eq_true.2 ⟨m, hi, by simpa using hc⟩)
    rw [this] at h
    cases h
  · intro h
    cases hb : bad1 i c 20 1
    · have hn := bad1_no 20 1 hb
      rcases h with (h | h) | h
      · obtain ⟨m, hm, hx⟩ := List.any_eq_true.1 h
        have := kn_range (ai.1 m hm)
        obtain ⟨q, rfl⟩ : ∃ q : Nat, m = q := ⟨m.toNat, by omega⟩
        exact absurd (.inl ⟨fxo.1 hx, .inl hm⟩) (hn q (by omega) (by omega))
      · obtain ⟨m, hm, hx⟩ := List.any_eq_true.1 h
        have := kn_range (ac.1 m hm)
        obtain ⟨q, rfl⟩ : ∃ q : Nat, m = q := ⟨m.toNat, by omega⟩
        exact absurd (.inl ⟨fxo.1 hx, .inr hm⟩) (hn q (by omega) (by omega))
      · obtain ⟨m, hm, hx⟩ := List.any_eq_true.1 h
        have := kn_range (ai.1 m hm)
        obtain ⟨q, rfl⟩ : ∃ q : Nat, m = q := ⟨m.toNat, by omega⟩
        exact absurd (.inr ⟨hm, by simpa using hx⟩) (hn q (by omega) (by omega))
    · rfl
theorem bad2_iff {p i : List Int} (ap : Asc p) : bad2 p i 20 1 = true ↔ vp p i p.length 0 = true ∨ (18 ∈ p ∧ p.any stp' = true) := by
  rw [vp_iff p.length 0 (by omega), List.drop_zero]
  constructor
  · intro h
    apply Classical.byContradiction
    intro hn
    have : bad2 p i 20 1 = false := by
      refine bad2_yes 20 1 fun m _ _ hh => hn ?_
      rcases hh with ⟨h1, h2, h3⟩ | ⟨h1, h2, h3⟩
      · exact .inl ⟨m, h2, h1, h3⟩
      · exact .inr ⟨h3, List.any_eq_true.2 ⟨m, h2, h1⟩⟩
    rw [this] at h
    cases h
  · intro h
    cases hb : bad2 p i 20 1
    · have hn := bad2_no 20 1 hb
      rcases h with ⟨m, hm, h1, h2⟩ | ⟨h1, h2⟩
      · have := kn_range (ap.1 m hm)
        obtain ⟨q, rfl⟩ : ∃ q : Nat, m = q := ⟨m.toNat, by omega⟩
        exact absurd (.inl ⟨h1, hm, h2⟩) (hn q (by omega) (by omega))
      · obtain ⟨m, hm, hx⟩ := List.any_eq_true.1 h2
        have := kn_range (ap.1 m hm)
        obtain ⟨q, rfl⟩ : ∃ q : Nat, m = q := ⟨m.toNat, by omega⟩
        exact absurd (.inr ⟨hx, hm, h1⟩) (hn q (by omega) (by omega))
    · rfl
theorem vd0_eq (p i c : List Int) : vd0 p i c = vd p i c := by
  unfold vd0 vd
  cases h1 : lsf p p.length 0
  · simp
  · cases h2 : lsf i i.length 0
    · simp
    · cases h3 : lsf c c.length 0
      · simp
      · have ap := (lsf_iff p).1 h1
        have ai := (lsf_iff i).1 h2
        have ac := (lsf_iff c).1 h3
        rw [if_pos rfl, if_pos rfl, if_pos rfl, if_neg (by simp)]
        unfold vd1 vd2 vd3 vd4
        by_cases b1 : bad1 i c 20 1 = true
        · rw [if_pos b1]
          rcases (bad1_iff ai ac).1 b1 with h | h
          · rw [if_pos h]
          · rw [if_pos h]; split <;> rfl
        · rw [if_neg b1, if_neg (fun h => b1 ((bad1_iff ai ac).2 (.inl h))), if_neg (fun h => b1 ((bad1_iff ai ac).2 (.inr h)))]
          by_cases b2 : bad2 p i 20 1 = true
          · rw [if_pos b2]
            rcases (bad2_iff ap).1 b2 with h | h
            · rw [if_pos h]
            · rw [if_pos h]; split <;> rfl
          · rw [if_neg b2, if_neg (fun h => b2 ((bad2_iff ap).2 (.inl h))), if_neg (fun h => b2 ((bad2_iff ap).2 (.inr h)))]
end Go.Proofs.YtgppkhbidcgnlaaDoor
