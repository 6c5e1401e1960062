/- The program's Group; Same; the law ProcGroups. No condition. -/
import Derived.Test.YtgppkhbidcgnlaaDoorPq
namespace Go.Proofs.YtgppkhbidcgnlaaDoor
open Go.PI
set_option maxRecDepth 100000
set_option maxHeartbeats 8000000
set_option linter.unusedSimpArgs false
theorem ix_live {l : List Px} {n : Int} : (ixG (liveX n) l 0 = -1 ∧ ∀ x ∈ l, liveX n x = false) ∨ ∃ k : Nat, ∃ h : k < l.length, ixG (liveX n) l 0 = k ∧ l[k].r.pid = n ∧ l[k].r.state ≠ 3 := by
  rcases ixG_spec (liveX n) l 0 with h | ⟨k, hk, e1, _, e3⟩
  · exact .inl h
  · refine .inr ⟨k, hk, by rw [e1, Nat.zero_add], ?_⟩
    simpa [liveX] using e3
def grpQ (l : List Px) (n w g : Int) : Option (List Px) × Int := if ixG (liveX n) l 0 < 0 ∨ ixG (liveX w) l 0 < 0 ∨ (w ≠ n ∧ (atX l (ixG (liveX w) l 0)).r.ppid ≠ n) then (none, 21) else if g < 0 ∨ 2147483647 < g then (none, 1) else grpT l (l.map clX) w g (ixG (liveX n) l 0) (ixG (liveX w) l 0)
theorem c23x {l : List Px} (hb : BndL l) (hN : ∀ x ∈ l, 1 ≤ x.r.pid ∧ x.r.pid ≤ 2147483647) (n w g : Int) : callW tbl 23 [pX l, .int .i64 n, .int .i64 w, .int .i64 g] = oc2 l (grp l (l.map clX) n (w0 n w) g) := by
  rw [call_run tbl (f := 23) (fn := f23) rfl _ rfl]
  have key : ∀ (e : Env) (w g : Int), e.get 0 = pX l → e.get 1 = .int .i64 n → e.get 2 = .int .i64 w → e.get 7 = .bptr 0 0 → run tbl (.cl [.tmp 8, .tmp 9]) [] (f23r5.seq ((IC.block 0 ((f23r6.seq (.cond (.t 29) .skip f23r7)).seq (.cond (.t 29) (f23r8.seq .ret) (f23r9.seq (.cond (.t 49) (f23r10.seq .ret) .skip))))).seq tail23)) e [.box 3 1 (.int .i64 g), .row 30 13 0 []] = oc2 l (grpQ l n w g) := by
    intro e w g e0 e1 e2 e7
    unfold grpQ
    have hn := c47x hb.len n
    have hw := c47x hb.len w
    rcases ix_live (l := l) (n := n) with ⟨i1, _⟩ | ⟨j, hj, i1, _, _⟩
    · rw [i1] at hn ⊢
      rw [if_pos (by omega)]
      generalize ixG (liveX w) l 0 = q at hw
      simp [-f23r11_run, e0, e1, e2, e7, hn, hw]
    · rw [i1] at hn ⊢
      rcases ix_live (l := l) (n := w) with ⟨i2, _⟩ | ⟨k, hk, i2, hp, _⟩
      · rw [i2] at hw ⊢
        rw [if_pos (by omega)]
        simp [-f23r11_run, e0, e1, e2, e7, hn, hw, show ¬ (j : Int) < 0 by omega]
      · rw [i2] at hw ⊢
        rw [atX_eq hk]
        have nj : ¬ (j : Int) < 0 := by omega
        have nk : ¬ (k : Int) < 0 := by omega
        have ht := t23x hb w g j k hj hk hp
        by_cases c2 : w = n
        · rw [if_neg (by rintro (h | h | h); exact nj h; exact nk h; exact h.1 c2)]
          by_cases g1 : g < 0
          · rw [if_pos (.inl g1)]
            simp [-f23r11_run, e0, e1, e2, e7, hn, hw, nj, nk, eq_true c2, g1]
          · by_cases g2 : 2147483647 < g
            · rw [if_pos (.inr g2)]
              simp [-f23r11_run, e0, e1, e2, e7, hn, hw, nj, nk, eq_true c2, g1, g2]
            · rw [if_neg (by omega)]
              simp [-f23r11_run, e0, e1, e2, e7, hn, hw, nj, nk, eq_true c2, g1, g2]
              rw [← run_seq]
              exact ht _ (by simp) (by simp) (by simp) (by simp) (by simp)
        · by_cases c3 : l[k].r.ppid = n
          · rw [if_neg (by rintro (h | h | h); exact nj h; exact nk h; exact h.2 c3)]
            by_cases g1 : g < 0
            · rw [if_pos (.inl g1)]
              simp [-f23r11_run, e0, e1, e2, e7, hn, hw, nj, nk, c2, hk, eq_true c3, g1]
            · by_cases g2 : 2147483647 < g
              · rw [if_pos (.inr g2)]
                simp [-f23r11_run, e0, e1, e2, e7, hn, hw, nj, nk, c2, hk, eq_true c3, g1, g2]
              · rw [if_neg (by omega)]
                simp [-f23r11_run, e0, e1, e2, e7, hn, hw, nj, nk, c2, hk, eq_true c3, g1, g2]
                rw [← run_seq]
                exact ht _ (by simp) (by simp) (by simp) (by simp) (by simp)
          · rw [if_pos (.inr (.inr ⟨c2, c3⟩))]
            simp [-f23r11_run, e0, e1, e2, e7, hn, hw, nj, nk, c2, hk, c3]
  have fold : ∀ w, grpQ l n w (if g = 0 then w else g) = grp l (l.map clX) n w g := by
    intro w
    unfold grp grpQ
    by_cases c : ixG (liveX n) l 0 < 0 ∨ ixG (liveX w) l 0 < 0 ∨ (w ≠ n ∧ (atX l (ixG (liveX w) l 0)).r.ppid ≠ n)
    · rw [if_pos c, if_pos c]
    · rw [if_neg c, if_neg c]
      by_cases g0 : g = 0
      · simp only [if_pos g0]
        have hw : ¬ (w < 0 ∨ 2147483647 < w) := by
          rcases ix_live (l := l) (n := w) with ⟨i2, _⟩ | ⟨k, hk, _, hp, _⟩
          · exact absurd (.inr (.inl (by omega))) c
          · have := hN _ (List.getElem_mem hk); omega
        rw [if_neg hw, if_neg (by omega)]
      · simp only [if_neg g0]
  by_cases h0 : w = 0
  · rw [show w0 n w = n by simp [h0], ← fold]
    by_cases g0 : g = 0
    · rw [if_pos g0]
      simp [-f23r5_run, f23, f23body, h0, g0]
      rw [← run_seq]
      exact key _ n n (by simp) (by simp) (by simp) (by simp)
    · rw [if_neg g0]
      simp [-f23r5_run, f23, f23body, h0, g0]
      rw [← run_seq]
      exact key _ n g (by simp) (by simp) (by simp) (by simp)
  · rw [show w0 n w = w by simp [h0], ← fold]
    by_cases g0 : g = 0
    · rw [if_pos g0]
      simp [-f23r5_run, f23, f23body, h0, g0]
      rw [← run_seq]
      exact key _ w w (by simp) (by simp) (by simp) (by simp)
    · rw [if_neg g0]
      simp [-f23r5_run, f23, f23body, h0, g0]
      rw [← run_seq]
      exact key _ w g (by simp) (by simp) (by simp) (by simp)
/- Same -/
theorem t46 (l : List Fd3) (hl : l.length ≤ 1000000) : ∀ (k i : Nat), i + k = l.length → run tbl (.cl [.tmp 4]) [.blk 0, .seq (f46r9.seq .ret)] (.loop [0, 1, 5] f46b8) [(0, .sl 3 (fl l)), (1, .sl 3 (fl l)), (5, .int .i64 i)] [] = some (.bool true, [])
  | 0, i, h => by
    rw [run_loopD _ _ f46b8_eq]
    simp [show ¬ i < l.length by omega]
  | k + 1, i, h => by
    have hi : i < l.length := by omega
    have ih := t46 l hl k (i + 1) (by omega)
    rw [Int.natCast_succ] at ih
    rw [run_loopD _ _ f46b8_eq]
    simp [hi, wrapS i (by omega), ih]
theorem c46 {x y : AV} {l : List Fd3} (hl : l.length ≤ 1000000) (hx : IsF x l) (hy : IsF y l) : callW tbl 46 [x, y] = some (.bool true, []) := by
  rw [call_run tbl (f := 46) (fn := f46) rfl _ rfl]
  cases hx with
  | sl l =>
    cases hy with
    | sl =>
      have h := t46 l hl l.length 0 (by omega)
      simp at h
      simp [f46, f46body, h]
    | e0 =>
      simp [f46, f46body]
      rw [run_loopD _ _ f46b8_eq]
      simp
  | e0 =>
    cases hy with
    | sl =>
      simp [f46, f46body]
      rw [run_loopD _ _ f46b8_eq]
      simp
    | e0 =>
      simp [f46, f46body]
      rw [run_loopD _ _ f46b8_eq]
      simp
theorem c16x {x y : Px} (h : y.r = x.r) (hb : BndX x) : callW tbl 16 [encX x, encX y] = some (.bool true, []) := by
  rw [call_run tbl (f := 16) (fn := f16) rfl _ rfl]
  have h45 := c45 (by omega) (by omega) (by omega) x.ha x.hb x.hc (h ▸ y.ha) (h ▸ y.hb) (h ▸ y.hc)
  have h46 := c46 (by omega) x.hd (h ▸ y.hd)
  simp [f16, f16body, h, h45, h46]
theorem t17x {a b : List Px} (e : b.map (·.r) = a.map (·.r)) (hb : BndL a) : ∀ (k i : Nat), i + k = a.length → run tbl (.cl [.tmp 4]) [.blk 0, .seq (f17r9.seq .ret)] (.loop [0, 1, 5] f17b8) [(0, pX a), (1, pX b), (5, .int .i64 i)] [] = some (.bool true, [])
  | 0, i, h => by
    rw [run_loopD _ _ f17b8_eq]
    simp [show ¬ i < a.length by omega]
  | k + 1, i, h => by
    have hln : b.length = a.length := by simpa using congrArg List.length e
    have hi : i < a.length := by omega
    have hj : i < b.length := by omega
    have ih := t17x e hb k (i + 1) (by omega)
    rw [Int.natCast_succ] at ih
    have hr : b[i].r = a[i].r := by
      have := congrArg (fun l => l[i]?) e
      simpa [hi, hj] using this
    have h16 := c16x hr (hb.2 _ (List.getElem_mem hi))
    have hbl := hb.1
    rw [run_loopD _ _ f17b8_eq]
    simp [hi, hj, h16, wrapS i (by omega), ih]
theorem c17x {a b : List Px} (e : b.map (·.r) = a.map (·.r)) (hb : BndL a) : callW tbl 17 [pX a, pX b] = some (.bool true, []) := by
  rw [call_run tbl (f := 17) (fn := f17) rfl _ rfl]
  have hln : b.length = a.length := by simpa using congrArg List.length e
  have h := t17x e hb a.length 0 (by omega)
  simp at h
  simp [f17, f17body, hln, h]
end Go.Proofs.YtgppkhbidcgnlaaDoor
