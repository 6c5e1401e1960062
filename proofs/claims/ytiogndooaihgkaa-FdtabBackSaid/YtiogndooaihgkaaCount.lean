/- FdtabCounts: what Hold and Release give, on both sides; the law's function returns true. No condition. -/
import Derived.Test.YtiogndooaihgkaaLook
namespace Go.Proofs.Ytiogndooaihgkaa
open Go.PI
set_option maxRecDepth 100000
set_option maxHeartbeats 8000000
set_option linter.unusedSimpArgs false
structure De where
  kind : Int
  a : Int
  b : Int
  c : Int
  refs : Int
  s : List UInt8
abbrev encD (x : De) : AV := .agg [.int .i64 x.kind, .int .i64 x.a, .int .i64 x.b, .int .i64 x.c, .int .i64 x.refs, .str x.s]
abbrev zD : De := ⟨0, 0, 0, 0, 0, []⟩
abbrev WfD (x : De) : Prop := -9223372036854775808 ≤ x.refs ∧ x.refs ≤ 9223372036854775807
/-- a list of descriptions, read -/
theorem des {c : AV} (h : HasTy (.sl true [.int .i64, .int .i64, .int .i64, .int .i64, .int .i64, .str]) c) : ∃ l : List De, c = .sl 6 (l.map encD) ∧ l.length ≤ maxLen ∧ ∀ x ∈ l, WfD x :=
  HasTy.structs h (fun cs hl hj => by
    have h0 := Tys.of _ cs hl hj
    obtain ⟨_, _, rfl, k0, h0⟩ := h0.cons_inv
    obtain ⟨_, _, rfl, k1, h0⟩ := h0.cons_inv
    obtain ⟨_, _, rfl, k2, h0⟩ := h0.cons_inv
    obtain ⟨_, _, rfl, k3, h0⟩ := h0.cons_inv
    obtain ⟨_, _, rfl, k4, h0⟩ := h0.cons_inv
    obtain ⟨_, _, rfl, k5, h0⟩ := h0.cons_inv
    obtain rfl := h0.nil_inv
    obtain ⟨a, rfl, _⟩ := k0.int_inv
    obtain ⟨b, rfl, _⟩ := k1.int_inv
    obtain ⟨d, rfl, _⟩ := k2.int_inv
    obtain ⟨e, rfl, _⟩ := k3.int_inv
    obtain ⟨f, rfl, wf⟩ := k4.int_inv
    obtain ⟨s, rfl, _⟩ := k5.str_inv
    exact ⟨⟨a, b, d, e, f, s⟩, rfl, wf64 wf⟩)
theorem c9b (l : List AV) : callW tbl 9 [.e0, .sl 6 l] = some (.bool (decide (l.length ≤ 140)), []) := by
  rw [call_run tbl (f := 9) (fn := f9) rfl _ rfl]
  by_cases h1 : (l.length : Int) ≤ 140 <;> simp [f9, f9body, h1] <;> omega
/- SameDescs of a list and itself -/
theorem t19 (l : List De) (hl : l.length ≤ 1000000) : ∀ (k i : Nat), i + k = l.length → run tbl (.cl [.tmp 4]) [.blk 0, .seq (f19r9.seq .ret)] (.loop [0, 1, 5] f19b8) [(0, .sl 6 (l.map encD)), (1, .sl 6 (l.map encD)), (5, .int .i64 i)] [] = some (.bool true, [])
  | 0, i, h => by
    rw [run_loopD _ _ f19b8_eq]
    simp [show ¬ i < l.length by omega]
  | k + 1, i, h => by
    have hi : i < l.length := by omega
    have ih := t19 l hl k (i + 1) (by omega)
    rw [Int.natCast_succ] at ih
    rw [run_loopD _ _ f19b8_eq]
    simp [hi, wrapS i (by omega), ih]
theorem c19 (l : List De) (hl : l.length ≤ 1000000) : callW tbl 19 [.sl 6 (l.map encD), .sl 6 (l.map encD)] = some (.bool true, []) := by
  rw [call_run tbl (f := 19) (fn := f19) rfl _ rfl]
  have h := t19 l hl l.length 0 (by omega)
  simp at h
  simp [f19, f19body, h]
/- changed -/
def cf (n : Int) (d : De) : List De → Nat → List De
  | [], _ => []
  | x :: r, i => (if (i : Int) = n then d else x) :: cf n d r (i + 1)
theorem cf_length (n : Int) (d : De) : ∀ (r : List De) (i : Nat), (cf n d r i).length = r.length
  | [], _ => rfl
  | x :: r, i => by simp [cf, cf_length n d r (i + 1)]
theorem cf_lt (n : Int) (d : De) : ∀ (r : List De) (i : Nat), n < i → cf n d r i = r
  | [], _, _ => rfl
  | x :: r, i, h => by rw [cf, if_neg (by omega), cf_lt n d r (i + 1) (by omega)]
theorem cf_set (d : De) : ∀ (r : List De) (i m : Nat), i ≤ m → cf m d r i = r.set (m - i) d
  | [], _, _, _ => rfl
  | x :: r, i, m, h => by
    rw [cf]
    by_cases e : i = m
    · subst e
      rw [if_pos rfl, cf_lt _ _ _ _ (by omega)]
      simp
    · rw [if_neg (by omega), cf_set d r (i + 1) m (by omega), show m - i = (m - (i + 1)) + 1 by omega]
      rfl
abbrev outD (l : List De) : Option (AV × List AO) := some (.ref 0 0 0 l.length, [.row 37 6 0 (l.map encD)])
theorem t37 (l : List De) (hl : l.length ≤ 1000000) (n : Int) (d : De) (h1 : AO) : ∀ (k i g : Nat) (rs : List De), i + k = l.length → rs.length = i → run tbl (.cl [.tmp 6]) [.blk 0, .seq (f37r9.seq .ret)] (.loop [7, 8, 1, 0, 5] f37b8) [(7, .ref 2 g 0 rs.length), (8, .int .i64 i), (1, .int .i64 n), (0, .sl 6 (l.map encD)), (5, .bptr 0 0)] [.box 37 6 (encD d), h1, .row 37 6 g (rs.map encD)] = outD (rs ++ cf n d (l.drop i) i)
  | 0, i, g, rs, h, hr => by
    rw [run_loopD _ _ f37b8_eq]
    simp [show ¬ i < l.length by omega, show l.drop i = [] from List.drop_eq_nil_of_le (by omega), cf]
  | k + 1, i, g, rs, h, hr => by
    have hi : i < l.length := by omega
    have ih := fun x => t37 l hl n d h1 k (i + 1) (g + 1) (rs ++ [x]) (by omega) (by simp; omega)
    rw [run_loopD _ _ f37b8_eq, drop_step hi, cf]
    by_cases hn : (i : Int) = n
    · subst hn
      have ih := ih d
      rw [Int.natCast_succ] at ih
      simp [-List.map_drop, -List.getElem_cons_drop] at ih
      simp [-List.map_drop, -List.getElem_cons_drop, hi, wrapS i (by omega), show rs.length ≤ 1073741823 by omega, ih]
    · have ih := ih l[i]
      rw [Int.natCast_succ] at ih
      simp [-List.map_drop, -List.getElem_cons_drop] at ih
      simp [-List.map_drop, -List.getElem_cons_drop, hi, wrapS i (by omega), hn, show rs.length ≤ 1073741823 by omega, ih]
theorem c37 (l : List De) (hl : l.length ≤ 1000000) (n : Int) (d : De) : callW tbl 37 [.sl 6 (l.map encD), .int .i64 n, encD d] = outD (cf n d l 0) := by
  rw [call_run tbl (f := 37) (fn := f37) rfl _ rfl]
  have h := t37 l hl n d (.row 37 6 0 []) l.length 0 0 [] (by omega) rfl
  simp at h
  simp [f37, f37body, h]

@[simp] theorem take_len_set {α β : Type} (l : List α) (f : α → β) (m : Nat) (x : β) : ((l.map f).set m x).take l.length = (l.map f).set m x := List.take_of_length_le (by simp)
theorem c38_used (l : List De) (m : Nat) (h : m < l.length) (h0 : l[m].kind ≠ 0) : callW tbl 38 [.sl 6 (l.map encD), .int .i64 m] = some (.bool true, []) := by
  rw [call_run tbl (f := 38) (fn := f38) rfl _ rfl]
  simp [f38, f38body, h, h0]
/-- not an index of a description that is used -/
inductive Off (l : List De) : Int → Prop where
  | low (n : Int) (h : n < 0) : Off l n
  | high (m : Nat) (h : ¬ m < l.length) : Off l m
  | free (m : Nat) (h : m < l.length) (h0 : l[m].kind = 0) : Off l m
theorem c38_off (l : List De) (n : Int) (h : Off l n) : callW tbl 38 [.sl 6 (l.map encD), .int .i64 n] = some (.bool false, []) := by
  rw [call_run tbl (f := 38) (fn := f38) rfl _ rfl]
  cases h with
  | low _ h => simp [f38, f38body, show ¬ 0 ≤ n by omega]
  | high m h => simp [f38, f38body, h]
  | free m h h0 => simp [f38, f38body, h, h0]
abbrev sameE (l : List De) (e : Int) : Option (AV × List AO) := some (.tup [.sl 6 (l.map encD), .int .i64 e], [])
abbrev newE (l : List De) (e : Int) : Option (AV × List AO) := some (.tup [.ref 0 0 0 l.length, .int .i64 e], [.row 37 6 0 (l.map encD)])
theorem c20_bad (l : List De) (n : Int) (h : Off l n) : callW tbl 20 [.sl 6 (l.map encD), .int .i64 n] = sameE l 15 := by
  rw [call_run tbl (f := 20) (fn := f20) rfl _ rfl]
  simp [f20, f20body, c38_off l n h]
theorem c20_full (l : List De) (m : Nat) (h : m < l.length) (h0 : l[m].kind ≠ 0) (h1 : 2147483647 ≤ l[m].refs) : callW tbl 20 [.sl 6 (l.map encD), .int .i64 m] = sameE l 4 := by
  rw [call_run tbl (f := 20) (fn := f20) rfl _ rfl]
  simp [f20, f20body, c38_used l m h h0, h, h1]
theorem c20_ok (l : List De) (hl : l.length ≤ 1000000) (m : Nat) (h : m < l.length) (h0 : l[m].kind ≠ 0) (h1 : ¬ 2147483647 ≤ l[m].refs) (hw : WfD l[m]) : callW tbl 20 [.sl 6 (l.map encD), .int .i64 m] = newE (l.set m { l[m] with refs := l[m].refs + 1 }) 0 := by
  rw [call_run tbl (f := 20) (fn := f20) rfl _ rfl]
  have hc := c36 (l.map encD) (by simp; omega)
  try simp at hc
  simp [f20, f20body, c38_used l m h h0, h, h1, hc, wrap64 (l[m].refs + 1) (by have := hw.1; omega) (by have := hw.2; omega)]
theorem Off.all (l : List De) (n : Int) : Off l n ∨ ∃ m : Nat, n = m ∧ ∃ h : m < l.length, l[m].kind ≠ 0 := by
  by_cases h0 : n < 0
  · exact .inl (.low n h0)
  · obtain ⟨m, rfl⟩ : ∃ m : Nat, n = m := ⟨n.toNat, by omega⟩
    by_cases h1 : m < l.length
    · by_cases h2 : l[m].kind = 0
      · exact .inl (.free m h1 h2)
      · exact .inr ⟨m, rfl, h1, h2⟩
    · exact .inl (.high m h1)
theorem c21_bad (l : List De) (n : Int) (h : Off l n) : callW tbl 21 [.sl 6 (l.map encD), .int .i64 n] = sameE l 15 := by
  rw [call_run tbl (f := 21) (fn := f21) rfl _ rfl]
  cases h with
  | low _ h => simp [f21, f21body, h]
  | high m h => simp [f21, f21body, show l.length ≤ m by omega]
  | free m h h0 => simp [f21, f21body, h, h0, show ¬ (m : Int) < 0 by omega, show ¬ l.length ≤ m by omega]
theorem c21_full (l : List De) (m : Nat) (h : m < l.length) (h0 : l[m].kind ≠ 0) (h1 : 2147483647 ≤ l[m].refs) : callW tbl 21 [.sl 6 (l.map encD), .int .i64 m] = sameE l 4 := by
  rw [call_run tbl (f := 21) (fn := f21) rfl _ rfl]
  simp [f21, f21body, h, h0, h1, show ¬ (m : Int) < 0 by omega, show ¬ l.length ≤ m by omega]
theorem c21_ok (l : List De) (hl : l.length ≤ 1000000) (m : Nat) (h : m < l.length) (h0 : l[m].kind ≠ 0) (h1 : ¬ 2147483647 ≤ l[m].refs) (hw : WfD l[m]) : callW tbl 21 [.sl 6 (l.map encD), .int .i64 m] = newE (l.set m { l[m] with refs := l[m].refs + 1 }) 0 := by
  rw [call_run tbl (f := 21) (fn := f21) rfl _ rfl]
  have hc := c37 l hl m { l[m] with refs := l[m].refs + 1 }
  rw [cf_set _ _ _ _ (Nat.zero_le _), Nat.sub_zero] at hc
  try simp at hc
  simp [f21, f21body, h, h0, h1, hc, show ¬ (m : Int) < 0 by omega, show ¬ l.length ≤ m by omega, wrap64 (l[m].refs + 1) (by have := hw.1; omega) (by have := hw.2; omega)]
abbrev sameR (l : List De) : Option (AV × List AO) := some (.tup [.sl 6 (l.map encD), .bool false, .int .i64 15], [])
abbrev newR (l : List De) (b : Bool) : Option (AV × List AO) := some (.tup [.ref 0 0 0 l.length, .bool b, .int .i64 0], [.row 37 6 0 (l.map encD)])
theorem c22_bad (l : List De) (n : Int) (h : Off l n) : callW tbl 22 [.sl 6 (l.map encD), .int .i64 n] = sameR l := by
  rw [call_run tbl (f := 22) (fn := f22) rfl _ rfl]
  simp [f22, f22body, c38_off l n h]
theorem c22_low (l : List De) (m : Nat) (h : m < l.length) (h0 : l[m].kind ≠ 0) (h1 : l[m].refs < 1) : callW tbl 22 [.sl 6 (l.map encD), .int .i64 m] = sameR l := by
  rw [call_run tbl (f := 22) (fn := f22) rfl _ rfl]
  simp [f22, f22body, c38_used l m h h0, h, h1]
theorem c22_last (l : List De) (hl : l.length ≤ 1000000) (m : Nat) (h : m < l.length) (h0 : l[m].kind ≠ 0) (h1 : l[m].refs = 1) : callW tbl 22 [.sl 6 (l.map encD), .int .i64 m] = newR (l.set m zD) true := by
  rw [call_run tbl (f := 22) (fn := f22) rfl _ rfl]
  have hc := c36 (l.map encD) (by simp; omega)
  try simp at hc
  simp [f22, f22body, c38_used l m h h0, h, h1, hc]
theorem c22_more (l : List De) (hl : l.length ≤ 1000000) (m : Nat) (h : m < l.length) (h0 : l[m].kind ≠ 0) (h1 : 1 < l[m].refs) (hw : WfD l[m]) : callW tbl 22 [.sl 6 (l.map encD), .int .i64 m] = newR (l.set m { l[m] with refs := l[m].refs - 1 }) false := by
  rw [call_run tbl (f := 22) (fn := f22) rfl _ rfl]
  have hc := c36 (l.map encD) (by simp; omega)
  try simp at hc
  simp [f22, f22body, c38_used l m h h0, h, show ¬ l[m].refs < 1 by omega, hc, wrap64 (l[m].refs - 1) (by have := hw.1; omega) (by have := hw.2; omega), h1]
theorem c23_bad (l : List De) (n : Int) (h : Off l n) : callW tbl 23 [.sl 6 (l.map encD), .int .i64 n] = sameR l := by
  rw [call_run tbl (f := 23) (fn := f23) rfl _ rfl]
  cases h with
  | low _ h => simp [f23, f23body, h]
  | high m h => simp [f23, f23body, show l.length ≤ m by omega]
  | free m h h0 => simp [f23, f23body, h, h0, show ¬ (m : Int) < 0 by omega, show ¬ l.length ≤ m by omega]
theorem c23_low (l : List De) (m : Nat) (h : m < l.length) (h0 : l[m].kind ≠ 0) (h1 : l[m].refs < 1) : callW tbl 23 [.sl 6 (l.map encD), .int .i64 m] = sameR l := by
  rw [call_run tbl (f := 23) (fn := f23) rfl _ rfl]
  simp [f23, f23body, h, h0, h1, show ¬ (m : Int) < 0 by omega, show ¬ l.length ≤ m by omega]
theorem c23_last (l : List De) (hl : l.length ≤ 1000000) (m : Nat) (h : m < l.length) (h0 : l[m].kind ≠ 0) (h1 : l[m].refs = 1) : callW tbl 23 [.sl 6 (l.map encD), .int .i64 m] = newR (l.set m zD) true := by
  rw [call_run tbl (f := 23) (fn := f23) rfl _ rfl]
  have hc := c37 l hl m zD
  rw [cf_set _ _ _ _ (Nat.zero_le _), Nat.sub_zero] at hc
  try simp at hc
  simp [f23, f23body, h, h0, h1, hc, show ¬ (m : Int) < 0 by omega, show ¬ l.length ≤ m by omega]
theorem c23_more (l : List De) (hl : l.length ≤ 1000000) (m : Nat) (h : m < l.length) (h0 : l[m].kind ≠ 0) (h1 : 1 < l[m].refs) (hw : WfD l[m]) : callW tbl 23 [.sl 6 (l.map encD), .int .i64 m] = newR (l.set m { l[m] with refs := l[m].refs - 1 }) false := by
  rw [call_run tbl (f := 23) (fn := f23) rfl _ rfl]
  have hc := c37 l hl m { l[m] with refs := l[m].refs - 1 }
  rw [cf_set _ _ _ _ (Nat.zero_le _), Nat.sub_zero] at hc
  try simp at hc
  simp [f23, f23body, h, h0, show ¬ l[m].refs < 1 by omega, show ¬ l[m].refs = 1 by omega, hc, show ¬ (m : Int) < 0 by omega, show ¬ l.length ≤ m by omega, wrap64 (l[m].refs - 1) (by have := hw.1; omega) (by have := hw.2; omega)]
theorem c19s (l : List De) (hl : l.length ≤ 1000000) (m : Nat) (d : De) : callW tbl 19 [.sl 6 ((l.map encD).set m (encD d)), .sl 6 ((l.map encD).set m (encD d))] = some (.bool true, []) := by
  have := c19 (l.set m d) (by simpa using hl)
  simpa using this
theorem c5 (l : List De) (hw : ∀ x ∈ l, WfD x) (n : Int) : callW tbl 5 [.sl 6 (l.map encD), .int .i64 n] = some (.bool true, []) := by
  rw [call_run tbl (f := 5) (fn := f5) rfl _ rfl]
  have h9 := c9b (l.map encD)
  simp at h9
  by_cases hs : l.length ≤ 140
  · have hl : l.length ≤ 1000000 := by omega
    have h19 := c19 l hl
    have h19s := c19s l hl
    rcases Off.all l n with ho | ⟨m, rfl, h, h0⟩
    · simp [f5, f5body, h9, hs, c20_bad l n ho, c21_bad l n ho, c22_bad l n ho, c23_bad l n ho, h19, c10]
    · have hm := hw _ (List.getElem_mem h)
      by_cases h1 : 2147483647 ≤ l[m].refs
      · have e1 := c22_more l hl m h h0 (by omega) hm
        have e2 := c23_more l hl m h h0 (by omega) hm
        try simp at e1 e2
        simp [f5, f5body, h9, hs, c20_full l m h h0 h1, c21_full l m h h0 h1, e1, e2, h19, h19s, c10]
      · have e3 := c20_ok l hl m h h0 h1 hm
        have e4 := c21_ok l hl m h h0 h1 hm
        try simp at e3 e4
        by_cases h2 : l[m].refs < 1
        · simp [f5, f5body, h9, hs, e3, e4, c22_low l m h h0 h2, c23_low l m h h0 h2, h19, h19s, c10]
        · by_cases h3 : l[m].refs = 1
          · have e1 := c22_last l hl m h h0 h3
            have e2 := c23_last l hl m h h0 h3
            try simp at e1 e2
            simp [f5, f5body, h9, hs, e3, e4, e1, e2, h19, h19s, c10]
          · have e1 := c22_more l hl m h h0 (by omega) hm
            have e2 := c23_more l hl m h h0 (by omega) hm
            try simp at e1 e2
            simp [f5, f5body, h9, hs, e3, e4, e1, e2, h19, h19s, c10]
  · simp [f5, f5body, h9, hs, c10]
end Go.Proofs.Ytiogndooaihgkaa
