/- FdtabBack: Hold, then Release; Add, then Release; the law's function returns true. No condition. -/
import Derived.Test.YtiogndooaihgkaaAdd
namespace Go.Proofs.Ytiogndooaihgkaa
open Go.PI
set_option maxRecDepth 100000
set_option maxHeartbeats 8000000
set_option linter.unusedSimpArgs false
/- the last loop: the three lists agree but at j -/
theorem t6 (l L M : List De) (hl : l.length ≤ 1000000) (j : Nat) (a b : Nat) (H : List AO) (ha : H[a]? = some (.fz 6 0 (L.map encD))) (hb : H[b]? = some (.row 37 6 0 (M.map encD)))
    (h1 : l.length ≤ L.length) (h2 : l.length ≤ M.length) (hk : ∀ (k : Nat) (h : k < l.length), k ≠ j → L[k] = l[k] ∧ M[k] = l[k]) (hj : ∀ h : j < l.length, l[j].kind = 0) :
    ∀ (k i : Nat), i + k = l.length → run tbl (.cl [.tmp 6]) [.blk 0, .seq (f6r21.seq .ret)] (.loop [12, 15, 13, 0, 18] f6b20) [(12, .ref a 0 0 L.length), (15, .ref b 0 0 M.length), (13, .int .i64 j), (0, .sl 6 (l.map encD)), (18, .int .i64 i)] H = some (.bool true, [])
  | 0, i, h => by
    rw [run_loopD _ _ f6b20_eq]
    simp [show ¬ i < l.length by omega, c10]
  | k + 1, i, h => by
    have hi : i < l.length := by omega
    have ih := t6 l L M hl j a b H ha hb h1 h2 hk hj k (i + 1) (by omega)
    rw [Int.natCast_succ] at ih
    rw [run_loopD _ _ f6b20_eq]
    by_cases e : i = j
    · subst e
      have h0 := hj hi
      simp [hi, wrapS i (by omega), h0, ih]
    · obtain ⟨e1, e2⟩ := hk i hi e
      simp [hi, wrapS i (by omega), show ¬ (i : Int) = j by omega, ha, hb, show i < L.length by omega, show i < M.length by omega, e1, e2, e, ih]
theorem ff_kind' : ∀ (r : List De) (i j : Nat), ff r i = some j → ∃ h : j - i < r.length, i ≤ j ∧ r[j - i].kind = 0
  | [], _, _, h => by cases h
  | x :: r, i, j, h => by
    rw [ff] at h
    split at h
    · rename_i h0
      cases h
      exact ⟨by simp, Nat.le_refl _, by simpa using h0⟩
    · obtain ⟨h1, h2, h3⟩ := ff_kind' r (i + 1) j h
      have e : j - i = (j - (i + 1)) + 1 := by omega
      refine ⟨by simp; omega, by omega, ?_⟩
      simp only [e, List.getElem_cons_succ]
      exact h3
theorem ff_kind (l : List De) (j : Nat) (h : ff l 0 = some j) (hj : j < l.length) : l[j].kind = 0 := by
  obtain ⟨_, _, h3⟩ := ff_kind' l 0 j h
  simpa using h3
abbrev tail6 : IC := (f6r10.seq (.cond (.t 76) (.seq f6r11 .ret) .skip)).seq (f6r12.seq ((f6r13.seq (.cond (.t 131) (.seq f6r14 .ret) .skip)).seq ((f6r15.seq (.block 0 (.loop [12, 15, 13, 0, 18] f6b20))).seq (f6r21.seq .ret))))
theorem p2 (l : List De) (hl : l.length ≤ 140) (d : De) (hd : d.refs = 1) (rest : List AO) : run tbl (.cl [.tmp 6]) [.seq tail6] f6r9 [(4, .bptr 0 0), (0, .sl 6 (l.map encD))] (.box 37 6 (encD d) :: rest) = some (.bool true, []) := by
  have h17 := c17 l (by omega) d
  have h19 := c19 l (by omega)
  unfold add at h17
  by_cases h1 : d.kind < 1 ∨ 7 < d.kind
  · rw [if_pos h1] at h17
    simp [h17, h19, c10]
  rw [if_neg h1] at h17
  cases hf : ff l 0 with
  | none =>
    rw [hf] at h17
    by_cases h8 : 128 ≤ l.length
    · simp [h8] at h17
      simp [h17, h19, c10]
    · simp [h8] at h17
      have h22 := c22_last (l ++ [d]) (by simp; omega) l.length (by simp) (by simp; omega) (by simp [hd])
      simp at h22
      have ht := fun a b H ha hb => t6 l (l ++ [d]) (l ++ [zD]) (by omega) l.length a b H ha hb (by simp) (by simp) (fun k h _ => by simp [h]) (fun h => absurd h (by omega)) l.length 0 (by omega)
      simp at ht
      have hb : (((AO.box 37 6 (encD d)) :: (rest ++ [AO.fz 6 0 (List.map encD l ++ [encD d]), AO.row 37 6 0 (List.map encD l ++ [encD zD])]))[rest.length + 2]?) = some (AO.row 37 6 0 (List.map encD l ++ [encD zD])) := by simp
      have ha : (((AO.box 37 6 (encD d)) :: (rest ++ [AO.fz 6 0 (List.map encD l ++ [encD d]), AO.row 37 6 0 (List.map encD l ++ [encD zD])]))[rest.length + 1]?) = some (AO.fz 6 0 (List.map encD l ++ [encD d])) := by simp
      have ht := ht _ _ _ ha hb
      simp [h17, h22, show ¬ (l.length : Int) < 0 by omega, show ¬ (l.length : Int) + 1 ≤ l.length by omega, wrapS l.length (by omega), ht, show (l.length : Int) < l.length + 1 by omega]
  | some j =>
    have hj := ff_lt l 0 j hf
    simp at hj
    rw [hf] at h17
    try simp at h17
    have h22 := c22_last (l.set j d) (by simp; omega) j (by simpa using hj) (by simp; omega) (by simp [hd])
    simp at h22
    have hz : l[j].kind = 0 := ff_kind l j hf hj
    have ht := fun a b H ha hb => t6 l (l.set j d) (l.set j zD) (by omega) j a b H ha hb (by simp) (by simp) (fun k h hk => by simp [List.getElem_set, Ne.symm hk]) (fun _ => hz) l.length 0 (by omega)
    simp at ht
    have hb : (((AO.box 37 6 (encD d)) :: (rest ++ [AO.fz 6 0 ((List.map encD l).set j (encD d)), AO.row 37 6 0 ((List.map encD l).set j (encD zD))]))[rest.length + 2]?) = some (AO.row 37 6 0 ((List.map encD l).set j (encD zD))) := by simp
    have ha : (((AO.box 37 6 (encD d)) :: (rest ++ [AO.fz 6 0 ((List.map encD l).set j (encD d)), AO.row 37 6 0 ((List.map encD l).set j (encD zD))]))[rest.length + 1]?) = some (AO.fz 6 0 ((List.map encD l).set j (encD d))) := by simp
    have ht := ht _ _ _ ha hb
    simp [h17, h22, hj, show ¬ (j : Int) < 0 by omega, show ¬ l.length ≤ j by omega, wrapS j (by omega), ht, show ¬ (l.length : Int) < (j : Int) + 1 by omega]
theorem back_eq (l : List De) (m : Nat) (h : m < l.length) : ((l.set m { l[m] with refs := l[m].refs + 1 }).set m { (l.set m { l[m] with refs := l[m].refs + 1 })[m]'(by simpa using h) with refs := ((l.set m { l[m] with refs := l[m].refs + 1 })[m]'(by simpa using h)).refs - 1 }) = l := by
  simp [Int.add_sub_cancel]
  exact List.set_getElem_self h
theorem c6 (l : List De) (hw : ∀ x ∈ l, WfD x) (d : De) (n : Int) : callW tbl 6 [.sl 6 (l.map encD), encD d, .int .i64 n] = some (.bool true, []) := by
  rw [call_run tbl (f := 6) (fn := f6) rfl _ rfl]
  have h9 := c9b (l.map encD)
  simp at h9
  by_cases hs : l.length ≤ 140
  · have hl : l.length ≤ 1000000 := by omega
    have h19 := c19 l hl
    have hp := p2 l hs { d with refs := 1 } rfl
    dsimp only [encD] at hp
    rcases Off.all l n with ho | ⟨m, rfl, h, h0⟩
    · simp [-f6r9_run, f6, f6body, h9, hs, c20_bad l n ho, hp]
    · have hm := hw _ (List.getElem_mem h)
      by_cases h1 : 2147483647 ≤ l[m].refs
      · simp [-f6r9_run, f6, f6body, h9, hs, c20_full l m h h0 h1, hp]
      · have e3 := c20_ok l hl m h h0 h1 hm
        by_cases h2 : 0 < l[m].refs
        · have e4 := c22_more (l.set m { l[m] with refs := l[m].refs + 1 }) (by simpa using hl) m (by simpa using h) (by simpa using h0) (by simp; omega) (by rw [List.getElem_set_self]; have := hm.1; exact ⟨by dsimp only; omega, by dsimp only; omega⟩)
          rw [back_eq l m h] at e4
          simp at e3 e4
          simp [-f6r9_run, f6, f6body, h9, hs, e3, e4, h, h2, h19, hp]
        · simp at e3
          simp [-f6r9_run, f6, f6body, h9, hs, e3, h, h2, hp]
  · simp [f6, f6body, h9, hs, c10]
end Go.Proofs.Ytiogndooaihgkaa
