/- Signals: without, with, clone and Send. No condition. -/
import Derived.Test.YtlkfejigeeddaaaDoorOpn
import Derived.Test.YtlkfejigeeddaaaDoorPln
namespace Go.Proofs.YtlkfejigeeddaaaDoor
open Go.PI
set_option maxRecDepth 100000
set_option maxHeartbeats 8000000
set_option linter.unusedSimpArgs false
theorem ixL_spec (p : Int → Bool) : ∀ (l : List Int) (i : Nat), (ixL p l i = -1 ∧ ∀ x ∈ l, p x = false) ∨ ∃ k, ∃ h : k < l.length, ixL p l i = ((i + k : Nat) : Int) ∧ (∀ x ∈ l.take k, p x = false) ∧ p l[k] = true
  | [], i => .inl ⟨rfl, by simp⟩
  | x :: r, i => by
    rw [ixL]
    cases hx : p x
    · rcases ixL_spec p r (i + 1) with ⟨h1, h2⟩ | ⟨k, hk, h1, h2, h3⟩
      · refine .inl ⟨by simpa using h1, fun y hy => ?_⟩
        rcases List.mem_cons.1 hy with rfl | hy
        · exact hx
        · exact h2 y hy
      · refine .inr ⟨k + 1, by simpa using hk, by simp [h1]; omega, fun y hy => ?_, by simpa using h3⟩
        rw [List.take_succ_cons] at hy
        rcases List.mem_cons.1 hy with rfl | hy
        · exact hx
        · exact h2 y hy
    · exact .inr ⟨0, by simp, by simp, by simp, by simpa using hx⟩
theorem cv44 (l : List Int) (hl : l.length ≤ 1000000) (f : Nat) (caps : List AV) (p : Int → Bool) (A Z : List AO) (g : Nat) (T : List AV) (hp : ∀ m es, callV tbl f (.int .i64 m :: caps) (A ++ .row 3 1 g es :: (Z ++ [.row 3 1 0 []])) = some (.bool (p m), A ++ .row 3 1 g es :: (Z ++ [.row 3 1 0 []]))) :
    ∃ T', callV tbl 44 [.ref A.length g 0 l.length, .fn f caps] (A ++ .row 3 1 g (im l ++ T) :: Z) = some (.ref A.length g 0 (l.filter (fun m => !p m)).length, A ++ .row 3 1 g (im (l.filter (fun m => !p m)) ++ T') :: (Z ++ [.row 3 1 0 []])) := by
  have h54 := c54r l hl f caps p A (Z ++ [.row 3 1 0 []]) g T (fun m => hp m _)
  rcases ixL_spec p l 0 with ⟨h1, h2⟩ | ⟨k, hk, h1, h2, h3⟩
  · refine ⟨T, ?_⟩
    rw [callV_run tbl (f := 44) (fn := f44) rfl _ _ rfl]
    have e : l.filter (fun m => !p m) = l := List.filter_eq_self.2 fun x hx => by simp [h2 x hx]
    rw [h1] at h54
    rw [e]
    try simp at h54
    simp [f44, f44body, h54]
  · obtain ⟨T', ht⟩ := t44 l hl f caps p A (Z ++ [.row 3 1 0 []]) g T hp (l.length - (k + 1)) (k + 1) (l.take k) l[k] [] (by omega) (by simp; omega)
    refine ⟨T', ?_⟩
    rw [callV_run tbl (f := 44) (fn := f44) rfl _ _ rfl]
    have e : l.filter (fun m => !p m) = l.take k ++ (l.drop (k + 1)).filter (fun m => !p m) := by
      conv => lhs; rw [← List.take_append_drop k l, drop_step hk]
      rw [List.filter_append, List.filter_cons_of_neg (by simp [h3]), List.filter_eq_self.2 fun x hx => by simp [h2 x hx]]
    have e2 : im l ++ T = im (l.take k) ++ (im [l[k]] ++ (im (l.drop (k + 1)) ++ T)) := by
      have e3 : im l = im (l.take k) ++ im (l.drop k) := by rw [← List.map_append, List.take_append_drop]
      rw [e3, drop_step hk, List.append_assoc]
      rfl
    have hlt : (l.take k).length = k := by simp; omega
    rw [hlt] at ht
    rw [Nat.zero_add] at h1
    rw [h1] at h54
    rw [e]
    rw [← e2] at ht
    rw [Int.natCast_succ] at ht
    generalize im l ++ T = es at ht h54 ⊢
    generalize l.take k ++ (l.drop (k + 1)).filter (fun m => !p m) = R at ht ⊢
    try simp at h54 ht
    simp [f44, f44body, h54, wrapS k (by omega), show ¬ ((k : Int) = -1) by omega, ht]
theorem cv41 (l : List Int) (hl : l.length ≤ 1000000) (n : Int) (A Z : List AO) (g : Nat) (T : List AV) :
    ∃ T' Z', callV tbl 41 [.ref A.length g 0 l.length, .int .i64 n] (A ++ .row 3 1 g (im l ++ T) :: Z) = some (.ref A.length g 0 (wo l n).length, A ++ .row 3 1 g (im (wo l n) ++ T') :: (Z ++ Z')) := by
  obtain ⟨T', h⟩ := cv44 l hl 53 [.bptr (A.length + (Z.length + 1)) 0] (fun m => decide (m = n)) A (Z ++ [.box 3 1 (.int .i64 n), .row 3 1 0 []]) g T (fun m es => cv53 m n _ _ (by simp))
  refine ⟨T', [.box 3 1 (.int .i64 n), .row 3 1 0 [], .row 3 1 0 []], ?_⟩
  rw [callV_run tbl (f := 41) (fn := f41) rfl _ _ rfl]
  have e : l.filter (fun m => !decide (m = n)) = wo l n := by
    unfold wo
    congr 1
    funext m
    by_cases e : m = n <;> simp [e]
  rw [e] at h
  generalize wo l n = R at h ⊢
  generalize im l ++ T = es at h ⊢
  simp at h
  simp [f41, f41body, h]
/- with -/
theorem cv55 (l : List Int) (hl : l.length ≤ 1000000) (n : Int) (i : Nat) (hi : i ≤ l.length) (A Z : List AO) (g : Nat) (T : List AV) : callV tbl 55 [.ref A.length g 0 l.length, .int .i64 i, .ref (A.length + (Z.length + 1)) 0 0 1] (A ++ .row 3 1 g (im l ++ T) :: (Z ++ [.row 3 1 0 [.int .i64 n]]))
    = some (.ref A.length (g + 1) 0 (l.length + 1), A ++ .row 3 1 (g + 1) (im (insL l i n)) :: (Z ++ [.row 3 1 0 [.int .i64 n]])) := by
  rw [callV_ext tbl rfl]
  have e0 : ∀ args H, tbl.extO 55 args H = insX 3 H args := fun _ _ => rfl
  rw [e0]
  have e1 : (A ++ AO.row 3 1 g (im l ++ T) :: (Z ++ [.row 3 1 0 [.int .i64 n]]))[A.length]? = some (.row 3 1 g (im l ++ T)) := by simp
  have e2 : (A ++ AO.row 3 1 g (im l ++ T) :: (Z ++ [.row 3 1 0 [.int .i64 n]]))[A.length + (Z.length + 1)]? = some (.row 3 1 0 [.int .i64 n]) := by simp
  unfold insX
  simp only [e1, e2]
  rw [if_pos (by refine ⟨trivial, trivial, trivial, by simp, by omega, by omega, by omega, by simp only [maxRow]; omega⟩)]
  have e3 : (im l ++ T).take l.length = im l := by rw [List.take_append_of_le_length (by simp)]; simp
  rw [e3, set_mid]
  simp [insL]
theorem t45 (l : List Int) (hl : l.length ≤ 1000000) (n : Int) (A Z : List AO) (g : Nat) (T : List AV) : ∀ (k i : Nat), i + k = l.length → ∃ g' T' Z', run tbl (.op [.tmp 4]) [.blk 0, .seq ((f45r5.seq (.cond (.t 31) (f45r6.seq .ret) .skip)).seq (f45r7.seq .ret))] (.loop [5, 0, 1] f45b4) [(5, .int .i64 i), (0, .ref A.length g 0 l.length), (1, .int .i64 n)] (A ++ .row 3 1 g (im l ++ T) :: Z)
      = some (.ref A.length g' 0 (l.take i ++ insS (l.drop i) n).length, A ++ .row 3 1 g' (im (l.take i ++ insS (l.drop i) n) ++ T') :: (Z ++ Z'))
  | 0, i, h => by
    obtain rfl : i = l.length := by omega
    refine ⟨g + 1, [], [.row 3 1 0 [.int .i64 n]], ?_⟩
    rw [run_loopD _ _ f45b4_eq]
    have h55 := cv55 l hl n l.length (Nat.le_refl _) A Z g T
    have e : insL l l.length n = l ++ [n] := by simp [insL]
    rw [e] at h55
    generalize im l ++ T = es at h55 ⊢
    simp at h55
    simp [h55, insS]
  | k + 1, i, h => by
    have hi : i < l.length := by omega
    have hg : (im l ++ T)[i]? = some (.int .i64 l[i]) := by rw [List.getElem?_append_left (by simpa using hi)]; simp [hi]
    by_cases h1 : l[i] < n
    · obtain ⟨g', T', Z', ih⟩ := t45 l hl n A Z g T k (i + 1) (by omega)
      refine ⟨g', T', Z', ?_⟩
      have e : l.take i ++ insS (l.drop i) n = l.take (i + 1) ++ insS (l.drop (i + 1)) n := by
        rw [drop_step hi, insS, if_pos h1, List.take_succ_eq_append_getElem hi, List.append_assoc]
        rfl
      rw [e]
      rw [Int.natCast_succ] at ih
      rw [run_loopD _ _ f45b4_eq]
      generalize l.take (i + 1) ++ insS (l.drop (i + 1)) n = R at ih ⊢
      generalize hes : im l ++ T = es at ih hg ⊢
      simp [hi, hg, h1, wrapS i (by omega), ih]
    · by_cases h2 : l[i] = n
      · refine ⟨g, T, [], ?_⟩
        have e : l.take i ++ insS (l.drop i) n = l := by
          rw [drop_step hi, insS, if_neg h1, if_pos h2, ← drop_step hi, List.take_append_drop]
        rw [e]
        rw [run_loopD _ _ f45b4_eq]
        generalize hes : im l ++ T = es at hg ⊢
        simp [hi, hg, h1, h2]
      · refine ⟨g + 1, [], [.row 3 1 0 [.int .i64 n]], ?_⟩
        have e : l.take i ++ insS (l.drop i) n = insL l i n := by
          rw [drop_step hi, insS, if_neg h1, if_neg h2, ← drop_step hi]
          rfl
        have h55 := cv55 l hl n i (by omega) A Z g T
        have el : (insL l i n).length = l.length + 1 := insL_length l i n (by omega)
        rw [e, el]
        rw [run_loopD _ _ f45b4_eq]
        generalize hes : im l ++ T = es at hg h55 ⊢
        generalize insL l i n = R at h55 ⊢
        try simp at h55
        simp [hi, hg, h1, h2, h55]
theorem cv45 (l : List Int) (hl : l.length ≤ 1000000) (n : Int) (A Z : List AO) (g : Nat) (T : List AV) :
    ∃ g' T' Z', callV tbl 45 [.ref A.length g 0 l.length, .int .i64 n] (A ++ .row 3 1 g (im l ++ T) :: Z) = some (.ref A.length g' 0 (insS l n).length, A ++ .row 3 1 g' (im (insS l n) ++ T') :: (Z ++ Z')) := by
  obtain ⟨g', T', Z', h⟩ := t45 l hl n A (Z ++ [.row 3 1 0 []]) g T l.length 0 (by omega)
  refine ⟨g', T', .row 3 1 0 [] :: Z', ?_⟩
  rw [callV_run tbl (f := 45) (fn := f45) rfl _ _ rfl]
  rw [List.take_zero, List.drop_zero, List.nil_append] at h
  generalize insS l n = R at h ⊢
  generalize im l ++ T = es at h ⊢
  simp at h
  simp [f45, f45body, h]
/- clone -/
theorem c52 {x : AV} {l : List Int} (hl : l.length ≤ 1000000) (hx : IsL x l) : callW tbl 52 [x] = some (.ref 0 0 0 l.length, [.row 3 1 0 (im l)]) := by
  rw [call_ext tbl rfl]
  cases hx with
  | il l =>
    show (if (l.map (AV.int .i64)).length ≤ maxRow then _ else none) = _
    rw [if_pos (by simp only [maxRow, List.length_map]; omega)]
    simp
  | e0 => rfl
abbrev outS (p i c : List Int) : Option (AV × List AO) := some (.agg [.ref 0 0 0 p.length, .ref 1 0 0 i.length, .ref 2 0 0 c.length], [.row 3 1 0 (im p), .row 3 1 0 (im i), .row 3 1 0 (im c)])
theorem c40 {a b d : AV} {p i c : List Int} (lp : p.length ≤ 1000) (li : i.length ≤ 1000) (lc : c.length ≤ 1000) (ha : IsL a p) (hb : IsL b i) (hd : IsL d c) : callW tbl 40 [.agg [a, b, d]] = outS p i c := by
  rw [call_run tbl (f := 40) (fn := f40) rfl _ rfl]
  have h1 := c52 (by omega) ha
  have h2 := c52 (by omega) hb
  have h3 := c52 (by omega) hd
  cases ha <;> cases hb <;> cases hd <;> (try simp at h1 h2 h3) <;> simp [f40, f40body, h1, h2, h3]
end Go.Proofs.YtlkfejigeeddaaaDoor
