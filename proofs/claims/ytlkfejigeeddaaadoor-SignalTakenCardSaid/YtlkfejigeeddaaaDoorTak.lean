/- SignalTaken: what is sent twice; the first loop. No condition. -/
import Derived.Test.YtlkfejigeeddaaaDoorSty2
namespace Go.Proofs.YtlkfejigeeddaaaDoor
open Go.PI
set_option maxRecDepth 100000
set_option maxHeartbeats 8000000
set_option linter.unusedSimpArgs false
theorem insS_mem {n : Int} : ∀ {l : List Int}, l.Pairwise (· < ·) → n ∈ l → insS l n = l
  | [], _, h => by cases h
  | y :: l, h, hm => by
    have hh := List.pairwise_cons.1 h
    rw [insS]
    rcases List.mem_cons.1 hm with rfl | hm
    · rw [if_neg (by omega), if_pos rfl]
    · rw [if_pos (hh.1 n hm), insS_mem hh.2 hm]
theorem filter_id {l : List Int} {f : Int → Bool} (h : ∀ m ∈ l, f m = true) : l.filter f = l := List.filter_eq_self.2 h
theorem sp1_snd {p i : List Int} {n : Int} : sp1 (sndP p i n) n = sndP p i n := by
  by_cases h18 : n = 18
  · have e : ∀ l, sp1 l n = l.filter (fun m => !stp' m) := fun l => by unfold sp1; rw [if_pos h18]
    rw [e]
    refine filter_id fun m hm => ?_
    unfold sndP at hm
    rw [if_pos (.inl h18)] at hm
    rcases mem_insS.1 hm with rfl | hm
    · subst h18; decide
    · rw [e] at hm
      exact (List.mem_filter.1 hm).2
  · by_cases hs : stp' n = true
    · have e : ∀ l, sp1 l n = wo l 18 := fun l => by unfold sp1; rw [if_neg h18, if_pos hs]
      rw [e]
      refine filter_id fun m hm => ?_
      unfold sndP at hm
      rw [e] at hm
      have : m ≠ 18 := by
        split at hm
        · rcases mem_insS.1 hm with rfl | hm
          · exact h18
          · exact (mem_wo.1 hm).2
        · exact (mem_wo.1 hm).2
      simpa using this
    · unfold sp1
      rw [if_neg h18, if_neg hs]
theorem snd_twice {p i c : List Int} (ok : OkS p i c) {n : Int} (hk : kn n = true) : sndP (sndP p i n) i n = sndP p i n := by
  have ok' := ok.snd hk
  have e := sp1_snd (p := p) (i := i) (n := n)
  by_cases hc : n = 18 ∨ n ∉ i
  · have hm : n ∈ sndP p i n := by unfold sndP; rw [if_pos hc]; exact mem_insS.2 (.inl rfl)
    conv => lhs; unfold sndP
    rw [if_pos hc]
    rw [show sp1 (if n = 18 ∨ n ∉ i then insS (sp1 p n) n else sp1 p n) n = sp1 (sndP p i n) n from rfl, e]
    exact insS_mem ok'.ap.2 hm
  · conv => lhs; unfold sndP
    rw [if_neg hc]
    exact e
/- heaps -/
theorem frz_mid (ids : List Nat) (o : AO) (ho : frzO o = o) (Z : List AO) (x : AO) (hx : frzO x = x) : ∃ Z', frz ids (o :: (Z ++ [x])) = o :: (Z' ++ [x]) ∧ Z'.length = Z.length := by
  have hl := frz_len ids (o :: (Z ++ [x]))
  have hg := frz_get ids (o :: (Z ++ [x]))
  cases hf : frz ids (o :: (Z ++ [x])) with
  | nil => rw [hf] at hl; simp at hl
  | cons o' W =>
    rw [hf] at hl hg
    have h0 := hg 0
    have hk := hg (Z.length + 1)
    have e0 : o' = o := by
      have h0' : some o' = if 0 ∈ ids then (some o).map frzO else some o := by simpa using h0
      split at h0'
      · rw [Option.map_some, ho] at h0'; exact Option.some.inj h0'
      · exact Option.some.inj h0'
    have hW : W.length = Z.length + 1 := by simpa using hl
    have ex : W[Z.length]? = some x := by
      have hk' : W[Z.length]? = if Z.length + 1 ∈ ids then (some x).map frzO else some x := by simpa using hk
      rw [hk']
      split
      · rw [Option.map_some, hx]
      · rfl
    refine ⟨W.take Z.length, ?_, by simp; omega⟩
    rw [e0]
    congr 1
    have hlt : Z.length < W.length := by omega
    rw [List.getElem?_eq_getElem hlt] at ex
    have ex := Option.some.inj ex
    conv => lhs; rw [← List.take_append_drop Z.length W]
    rw [List.drop_eq_getElem_cons hlt, ex, List.drop_eq_nil_of_le (by omega)]
theorem rsv_mid (t : Nat) (R : List AO) (hR : rsvIdx t R = none) : ∀ (A : List AO), rsvIdx t (A ++ .rsv t :: R) = some A.length
  | [] => by simp [rsvIdx, hR]
  | a :: A => by
    have := rsv_mid t R hR A
    simp [rsvIdx, this]
theorem conv0_app {H : List AO} {a a' : AV} {l : List Int} (X : List AO) (h : conv0 H a = a') (hl : IsL a' l) : conv0 (H ++ X) a = a' := by
  cases a with
  | ref id g o n =>
    have hi : id < H.length := by
      apply Classical.byContradiction
      intro hn
      have e : H[id]? = none := List.getElem?_eq_none (by omega)
      have : conv0 H (.ref id g o n) = .top := by simp only [conv0, rdRow, e]
      rw [this] at h
      subst h
      cases hl
    have e : (H ++ X)[id]? = H[id]? := List.getElem?_append_left hi
    have e2 : conv0 (H ++ X) (.ref id g o n) = conv0 H (.ref id g o n) := by simp only [conv0, rdRow, e]
    rw [e2, h]
  | fn f cs => cases cs <;> exact h
  | _ => exact h
theorem set_at {α : Type} (A : List α) (x y : α) (B : List α) (n : Nat) (h : n = A.length) : (A ++ x :: B).set n y = A ++ y :: B := by subst h; simp
theorem frz3 (o x : AO) (Z' : List AO) (A B C : List AV) (n1 n2 n3 a b d : Nat) (h1 : n1 = Z'.length + 2) (h2 : n2 = Z'.length + 3) (h3 : n3 = Z'.length + 4) : frz (refs0 (.ref n1 0 0 a) ++ (refs0 (.ref n2 0 0 b) ++ refs0 (.ref n3 0 0 d))) (o :: (Z' ++ [x, .row 3 1 0 A, .row 3 1 0 B, .row 3 1 0 C])) = o :: (Z' ++ [x, .fz 1 0 A, .fz 1 0 B, .fz 1 0 C]) := by
  have g1 : ∀ y, (o :: (Z' ++ [x, y, .row 3 1 0 B, .row 3 1 0 C]))[n1]? = some y := fun y => by rw [h1, show Z'.length + 2 = (Z'.length + 1) + 1 from rfl, List.getElem?_cons_succ, get_app_add]; rfl
  have g2 : ∀ y z, (o :: (Z' ++ [x, y, z, .row 3 1 0 C]))[n2]? = some z := fun y z => by rw [h2, show Z'.length + 3 = (Z'.length + 2) + 1 from rfl, List.getElem?_cons_succ, get_app_add]; rfl
  have g3 : ∀ y z u, (o :: (Z' ++ [x, y, z, u]))[n3]? = some u := fun y z u => by rw [h3, show Z'.length + 4 = (Z'.length + 3) + 1 from rfl, List.getElem?_cons_succ, get_app_add]; rfl
  have s1 : ∀ y w, (o :: (Z' ++ [x, y, .row 3 1 0 B, .row 3 1 0 C])).set n1 w = o :: (Z' ++ [x, w, .row 3 1 0 B, .row 3 1 0 C]) := fun y w => by
    have := set_at (o :: (Z' ++ [x])) y w [.row 3 1 0 B, .row 3 1 0 C] n1 (by simp; omega)
    simpa using this
  have s2 : ∀ y z w, (o :: (Z' ++ [x, y, z, .row 3 1 0 C])).set n2 w = o :: (Z' ++ [x, y, w, .row 3 1 0 C]) := fun y z w => by
    have := set_at (o :: (Z' ++ [x, y])) z w [.row 3 1 0 C] n2 (by simp; omega)
    simpa using this
  have s3 : ∀ y z u w, (o :: (Z' ++ [x, y, z, u])).set n3 w = o :: (Z' ++ [x, y, z, w]) := fun y z u w => by
    have := set_at (o :: (Z' ++ [x, y, z])) u w [] n3 (by simp; omega)
    simpa using this
  simp only [refs0, List.cons_append, List.nil_append]
  rw [frz, g1]
  dsimp only
  rw [s1, frz, g2]
  dsimp only
  rw [s2, frz, g3]
  dsimp only
  rw [s3, frz]
theorem cvf (o : AO) (Z' R : List AO) (n m : Nat) (l : List Int) (hn : n = Z'.length + m + 1) (h : R[m]? = some (.fz 1 0 (im l))) : conv0 (o :: (Z' ++ R)) (.ref n 0 0 l.length) = il l := by
  subst hn
  have e : (o :: (Z' ++ R))[Z'.length + m + 1]? = some (.fz 1 0 (im l)) := by rw [List.getElem?_cons_succ, get_app_add, h]
  simp only [conv0, rdRow, e]
  simp
theorem rf_isL {a : AV} {l : List Int} (h : IsL a l) : refs0 a = [] := by cases h <;> rfl
theorem al_isL {a : AV} {l : List Int} (h : IsL a l) : alen a = some l.length := by cases h <;> simp
theorem t5 (sn : List Int) (hs : sn.length ≤ 60) (K : List Fr) (R : Option (AV × List AO)) (hR : ∀ (a b d a' b' d' : AV) (p i c : List Int) (Z : List AO) (e : Env), conv0 (.box 30 3 (.agg [a, b, d]) :: Z) a = a' → conv0 (.box 30 3 (.agg [a, b, d]) :: Z) b = b' → conv0 (.box 30 3 (.agg [a, b, d]) :: Z) d = d' → IsL a' p → IsL b' i → IsL d' c → alen a = some p.length → OkS p i c → e.get 2 = .bptr 0 0 → back tbl (.cl [.tmp 4]) K e (.box 30 3 (.agg [a, b, d]) :: Z) = R) : ∀ (k j : Nat), j + k = sn.length → ∀ (a b d a' b' d' : AV) (p i c : List Int) (Z : List AO), conv0 (.box 30 3 (.agg [a, b, d]) :: Z) a = a' → conv0 (.box 30 3 (.agg [a, b, d]) :: Z) b = b' → conv0 (.box 30 3 (.agg [a, b, d]) :: Z) d = d' → IsL a' p → IsL b' i → IsL d' c → alen a = some p.length → OkS p i c →
    run tbl (.cl [.tmp 4]) (.blk 0 :: K) (.loop [1, 2, 5] f5b10) [(1, il sn), (2, .bptr 0 0), (5, .int .i64 j)] (.box 30 3 (.agg [a, b, d]) :: Z) = R
  | 0, j, h => by
    intro a b d a' b' d' p i c Z g1 g2 g3 ha hb hd al ok
    rw [run_loopD _ _ f5b10_eq]
    simp [show ¬ j < sn.length by omega]
    exact hR _ _ _ _ _ _ _ _ _ _ _ g1 g2 g3 ha hb hd al ok (by simp)
  | k + 1, j, h => by
    intro a b d a' b' d' p i c Z g1 g2 g3 ha hb hd al ok
    have hj : j < sn.length := by omega
    have ih := t5 sn hs K R hR k (j + 1) (by omega)
    rw [Int.natCast_succ] at ih
    have lp := ok.ap.length
    have li := ok.ai.length
    have lc := ok.ac.length
    have h22 := c22 (show p.length ≤ 1000 by omega) (show i.length ≤ 1000 by omega) (show c.length ≤ 1000 by omega) ha hb hd sn[j]
    obtain ⟨Z', hz, hl⟩ := frz_mid (refs0 a ++ (refs0 b ++ refs0 d)) (.box 30 3 (.agg [a, b, d])) rfl Z (.rsv 6) rfl
    have q1 := conv0_app [.rsv 6] g1 ha
    have q2 := conv0_app [.rsv 6] g2 hb
    have q3 := conv0_app [.rsv 6] g3 hd
    rw [List.cons_append] at q1 q2 q3
    rw [run_loopD _ _ f5b10_eq]
    by_cases hk : kn sn[j] = true
    · rw [if_pos hk] at h22
      have ok' := ok.snd hk
      have e2 := snd_twice ok hk
      have hm := rsv_mid 6 [.row 3 1 0 (im (sndP p i sn[j])), .row 3 1 0 (im i), .row 3 1 0 (im c)] (by simp [rsvIdx]) Z'
      generalize sndP p i sn[j] = q at h22 ok' e2 hm
      have lq := ok'.ap.length
      have j22 := c22 (show q.length ≤ 1000 by omega) (show i.length ≤ 1000 by omega) (show c.length ≤ 1000 by omega) (.il q) (.il i) (.il c) sn[j]
      rw [if_pos hk, e2] at j22
      have s1 := c21 (show q.length ≤ 1000000 by omega) (show i.length ≤ 1000000 by omega) (show c.length ≤ 1000000 by omega) (.il q) (.il i) (.il c) (.il q) (.il i) (.il c)
      have k1 := fun o x => cvr o Z' [x, .row 3 1 0 (im q), .row 3 1 0 (im i), .row 3 1 0 (im c)] (Z'.length + 1 + 1) 1 q (by omega) rfl
      have k2 := fun o x => cvr o Z' [x, .row 3 1 0 (im q), .row 3 1 0 (im i), .row 3 1 0 (im c)] (Z'.length + 1 + 1 + 1) 2 i (by omega) rfl
      have k3 := fun o x => cvr o Z' [x, .row 3 1 0 (im q), .row 3 1 0 (im i), .row 3 1 0 (im c)] (Z'.length + 1 + 1 + 2) 3 c (by omega) rfl
      have m1 := fun o x => cvf o Z' [x, .fz 1 0 (im q), .fz 1 0 (im i), .fz 1 0 (im c), .row 3 1 0 (im q), .row 3 1 0 (im i), .row 3 1 0 (im c)] (Z'.length + 1 + 1) 1 q (by omega) rfl
      have m2 := fun o x => cvf o Z' [x, .fz 1 0 (im q), .fz 1 0 (im i), .fz 1 0 (im c), .row 3 1 0 (im q), .row 3 1 0 (im i), .row 3 1 0 (im c)] (Z'.length + 1 + 1 + 1) 2 i (by omega) rfl
      have m3 := fun o x => cvf o Z' [x, .fz 1 0 (im q), .fz 1 0 (im i), .fz 1 0 (im c), .row 3 1 0 (im q), .row 3 1 0 (im i), .row 3 1 0 (im c)] (Z'.length + 1 + 1 + 2) 3 c (by omega) rfl
      have m4 := fun o x => cvr o Z' [x, .fz 1 0 (im q), .fz 1 0 (im i), .fz 1 0 (im c), .row 3 1 0 (im q), .row 3 1 0 (im i), .row 3 1 0 (im c)] (Z'.length + 5) 4 q (by omega) rfl
      have m5 := fun o x => cvr o Z' [x, .fz 1 0 (im q), .fz 1 0 (im i), .fz 1 0 (im c), .row 3 1 0 (im q), .row 3 1 0 (im i), .row 3 1 0 (im c)] (Z'.length + 4 + 1 + 1) 5 i (by omega) rfl
      have m6 := fun o x => cvr o Z' [x, .fz 1 0 (im q), .fz 1 0 (im i), .fz 1 0 (im c), .row 3 1 0 (im q), .row 3 1 0 (im i), .row 3 1 0 (im c)] (Z'.length + 4 + 1 + 2) 6 c (by omega) rfl
      have z3 := fun o x => frz3 o x Z' (im q) (im i) (im c) (Z'.length + 2) (Z'.length + 1 + 1 + 1) (Z'.length + 1 + 1 + 2) q.length i.length c.length (by omega) (by omega) (by omega)
      have ih := fun x => ih _ _ _ _ _ _ q i c _ (m1 _ x) (m2 _ x) (m3 _ x) (.il q) (.il i) (.il c) rfl ok'
      simp [-conv0, -refs0, -shift0, sh_ref, cv0_int, rf0_int, hj, q1, q2, q3, h22, hz, ← hl, hm, k1, k2, k3, j22, s1, z3, m1, m2, m3, m4, m5, m6, wrapS j (by omega), ih]
    · rw [if_neg hk] at h22
      have hm := rsv_mid 6 [] (by simp [rsvIdx]) Z'
      have s1 := c21 (show p.length ≤ 1000000 by omega) (show i.length ≤ 1000000 by omega) (show c.length ≤ 1000000 by omega) ha hb hd ha hb hd
      have k1 := fun H => cv0_isL H ha
      have k2 := fun H => cv0_isL H hb
      have k3 := fun H => cv0_isL H hd
      have s2 := fun n => sh_isL n ha
      have s3 := fun n => sh_isL n hb
      have s4 := fun n => sh_isL n hd
      have r1 := rf_isL ha
      have r2 := rf_isL hb
      have r3 := rf_isL hd
      have ih := fun Z => ih a' b' d' a' b' d' p i c Z (k1 _) (k2 _) (k3 _) ha hb hd (al_isL ha) ok
      simp [-conv0, -refs0, -shift0, cv0_int, rf0_int, hj, q1, q2, q3, h22, hz, ← hl, hm, k1, k2, k3, s1, s2, s3, s4, r1, r2, r3, wrapS j (by omega), ih]
/- what Next takes -/
theorem nx_mem {p : List Int} (h : p ≠ []) : nx p ∈ p := by
  unfold nx
  split
  · assumption
  · cases p with
    | nil => exact absurd rfl h
    | cons y l => simp
theorem wo_len {n : Int} : ∀ {p : List Int}, p.Pairwise (· < ·) → n ∈ p → p.length = (wo p n).length + 1
  | [], _, h => by cases h
  | y :: l, h, hm => by
    have hh := List.pairwise_cons.1 h
    by_cases e : y = n
    · have : wo (y :: l) n = l := by
        unfold wo
        rw [List.filter_cons_of_neg (by simp [e])]
        exact filter_id fun m hm => by have := hh.1 m hm; simp; omega
      rw [this, List.length_cons]
    · have hm := (List.mem_cons.1 hm).resolve_left (fun x => e x.symm)
      have : wo (y :: l) n = y :: wo l n := by unfold wo; rw [List.filter_cons_of_pos (by simp [e])]
      rw [this, List.length_cons, List.length_cons, ← wo_len hh.2 hm]
theorem conv0_frz (ids : List Nat) (H : List AO) (a : AV) : conv0 (frz ids H) a = conv0 H a := by
  cases a with
  | ref id g o n => simp only [conv0, rdRow_frz]
  | fn f cs => cases cs <;> rfl
  | _ => rfl
theorem cv0_bool (H : List AO) (b : Bool) : conv0 H (.bool b) = .bool b := rfl
theorem cv1_agg (H : List AO) (cs : List AV) : conv1 H (.agg cs) = .agg (cs.map (conv0 H)) := rfl
theorem cv1_int (H : List AO) (k : IntKind) (n : Int) : conv1 H (.int k n) = .int k n := rfl
theorem cv1_ref (H : List AO) (id g o n : Nat) : conv1 H (.ref id g o n) = conv0 H (.ref id g o n) := rfl
theorem cv1_of {H : List AO} {a a' : AV} {l : List Int} (h : conv0 H a = a') (hl : IsL a' l) : conv1 H a = a' := by
  cases a with
  | agg cs => subst h; cases hl
  | fn f cs => cases cs <;> (subst h; cases hl)
  | _ => exact h
theorem sh_int (k : Nat) (kk : IntKind) (n : Int) : shift0 k (.int kk n) = .int kk n := rfl
theorem al_ref (id g o n : Nat) : alen (.ref id g o n) = some n := rfl
theorem t5b (want : Nat) (hw : want ≤ 20) : ∀ (k j : Nat), j + k = want → ∀ (a b d a' b' d' : AV) (p i c : List Int) (Z : List AO) (last : Int), p.length = k → (9 ∈ p → j = 0) → (∀ m ∈ p, last < m) → conv0 (.box 30 3 (.agg [a, b, d]) :: Z) a = a' → conv0 (.box 30 3 (.agg [a, b, d]) :: Z) b = b' → conv0 (.box 30 3 (.agg [a, b, d]) :: Z) d = d' → IsL a' p → IsL b' i → IsL d' c → alen a = some p.length → OkS p i c →
    run tbl (.cl [.tmp 4]) [.blk 2, .seq (f5r26.seq (f5r27.seq .ret))] (.loop [7, 2, 9, 8] f5b25) [(7, .int .i64 want), (2, .bptr 0 0), (9, .int .i64 j), (8, .int .i64 last)] (.box 30 3 (.agg [a, b, d]) :: Z) = some (.bool true, [])
  | 0, j, h => by
    intro a b d a' b' d' p i c Z last hp h9 hlt g1 g2 g3 ha hb hd al ok
    obtain rfl : p = [] := List.length_eq_zero_iff.1 hp
    obtain rfl : want = j := by omega
    have li := ok.ai.length
    have lc := ok.ac.length
    have h19 := c19e hb hd ha
    obtain ⟨Z', hz, hl⟩ := frz_box (refs0 a ++ (refs0 b ++ refs0 d)) 30 3 (.agg [a, b, d]) Z
    have w : ∀ X x x' l, conv0 (.box 30 3 (.agg [a, b, d]) :: Z) x = x' → IsL x' l → conv0 (.box 30 3 (.agg [a, b, d]) :: (Z' ++ X)) x = x' := fun X x x' l hx hl => by
      have := conv0_app X (show conv0 (.box 30 3 (.agg [a, b, d]) :: Z') x = x' by rw [← hz, conv0_frz, hx]) hl
      exact this
    have w1 := fun X => w X a a' _ g1 ha
    have w2 := fun X => w X b b' _ g2 hb
    have w3 := fun X => w X d d' _ g3 hd
    have s1 := c21 (show ([] : List Int).length ≤ 1000000 by simp) (show i.length ≤ 1000000 by omega) (show c.length ≤ 1000000 by omega) ha hb hd ha hb hd
    have k1 := fun H => cv0_isL H ha
    have k2 := fun H => cv0_isL H hb
    have k3 := fun H => cv0_isL H hd
    have s2 := fun n => sh_isL n ha
    have s3 := fun n => sh_isL n hb
    have s4 := fun n => sh_isL n hd
    rw [run_loopD _ _ f5b25_eq]
    simp [-conv0, -refs0, -shift0, -alen, -conv1, cv1_agg, cv1_int, cv1_ref, cv0_bool, sh_int, cv0_int, rf0_int, g1, g2, g3, h19, hz, ← hl, w1, w2, w3, k1, k2, k3, s1, s2, s3, s4, c10]
  | k + 1, j, h => by
    intro a b d a' b' d' p i c Z last hp h9 hlt g1 g2 g3 ha hb hd al ok
    have ih := t5b want hw k (j + 1) (by omega)
    rw [Int.natCast_succ] at ih
    have hne : p ≠ [] := fun e => by rw [e] at hp; simp at hp
    have lp := ok.ap.length
    have li := ok.ai.length
    have lc := ok.ac.length
    have hm := nx_mem hne
    have hlen := wo_len ok.ap.2 hm
    have ok' := ok.wo (nx p)
    have hq : nx p ∉ wo p (nx p) := fun e => (mem_wo.1 e).2 rfl
    have hlt' := hlt _ hm
    have ha' : a' = il p := by cases ha with | il => rfl | e0 => exact absurd rfl hne
    subst ha'
    have h19 := c19 ok.ap hne (show i.length ≤ 1000 by omega) (show c.length ≤ 1000 by omega) hb hd
    have d1 := c24 p (by omega) (nx p)
    simp [hm] at d1
    have d2 := c24 (wo p (nx p)) (by omega) (nx p)
    simp [hq] at d2
    have d3 := c24 p (by omega) 9
    obtain ⟨Z', hz, hl⟩ := frz_box (refs0 a ++ (refs0 b ++ refs0 d)) 30 3 (.agg [a, b, d]) Z
    have w1 : ∀ X, conv0 (.box 30 3 (.agg [a, b, d]) :: (Z' ++ X)) a = il p := fun X => conv0_app X (show conv0 (.box 30 3 (.agg [a, b, d]) :: Z') a = il p by rw [← hz, conv0_frz, g1]) (.il p)
    have v1 := fun X => cv1_of (w1 X) (.il p)
    have hn9 : 9 ∈ p → nx p = 9 := fun e => by unfold nx; rw [if_pos e]
    have hnh : 9 ∉ p → ∀ m ∈ wo p (nx p), nx p < m := fun e m hm' => by
      have e1 : nx p = p.headD 0 := by unfold nx; rw [if_neg e]
      obtain ⟨h1, h2⟩ := mem_wo.1 hm'
      cases p with
      | nil => exact absurd rfl hne
      | cons y l =>
        rw [e1] at h2 ⊢
        exact ok.ap.head m ((List.mem_cons.1 h1).resolve_left h2)
    have h9' : 9 ∈ p → 9 ∉ wo p (nx p) := fun e => by rw [hn9 e]; exact fun x => (mem_wo.1 x).2 rfl
    have hsub : ∀ m ∈ wo p (nx p), m ∈ p := fun m hm' => (mem_wo.1 hm').1
    generalize wo p (nx p) = q at *
    generalize eff c (nx p) = ef at *
    generalize nx p = n at *
    have k1 := fun o x => cvr o Z' [.row 3 1 0 (im q), .row 3 1 0 (im i), .row 3 1 0 (im c), x] (Z'.length + 1) 0 q (by omega) rfl
    have k2 := fun o x => cvr o Z' [.row 3 1 0 (im q), .row 3 1 0 (im i), .row 3 1 0 (im c), x] (Z'.length + 1 + 1) 1 i (by omega) rfl
    have k3 := fun o x => cvr o Z' [.row 3 1 0 (im q), .row 3 1 0 (im i), .row 3 1 0 (im c), x] (Z'.length + 1 + 2) 2 c (by omega) rfl
    have ws := wrapN q.length (by omega)
    rw [run_loopD _ _ f5b25_eq]
    rw [hlen] at al
    have hjw : j < want := by omega
    by_cases c9 : 9 ∈ p
    · obtain rfl := h9 c9
      obtain rfl := hn9 c9
      have ih := fun x => ih _ _ _ _ _ _ q i c _ last (by omega) (fun e => absurd e (h9' c9)) (fun m hm' => hlt m (hsub m hm')) (k1 _ x) (k2 _ x) (k3 _ x) (.il q) (.il i) (.il c) rfl ok'
      simp at ih
      simp [-conv0, -refs0, -shift0, -alen, -conv1, cv1_agg, cv1_int, cv1_ref, v1, cv0_bool, sh_int, sh_ref, al_ref, al, cv0_int, rf0_int, hjw, g1, g2, g3, h19, hz, ← hl, w1, k1, k2, k3, d1, d2, ws, ih]
    · simp [c9] at d3
      have ih := fun x => ih _ _ _ _ _ _ q i c _ n (by omega) (fun e => absurd (hsub 9 e) c9) (hnh c9) (k1 _ x) (k2 _ x) (k3 _ x) (.il q) (.il i) (.il c) rfl ok'
      have n9 : ¬ n = 9 := fun e => c9 (e ▸ hm)
      have nl : ¬ n ≤ last := by omega
      by_cases j0 : j = 0
      · subst j0
        simp at ih
        simp [-conv0, -refs0, -shift0, -alen, -conv1, cv1_agg, cv1_int, cv1_ref, v1, cv0_bool, sh_int, sh_ref, al_ref, al, cv0_int, rf0_int, hjw, g1, g2, g3, h19, hz, ← hl, w1, k1, k2, k3, d1, d2, d3, ws, n9, nl, ih]
      · simp [-conv0, -refs0, -shift0, -alen, -conv1, cv1_agg, cv1_int, cv1_ref, v1, cv0_bool, sh_int, sh_ref, al_ref, al, cv0_int, rf0_int, hjw, j0, g1, g2, g3, h19, hz, ← hl, w1, k1, k2, k3, d1, d2, d3, ws, n9, nl, wrapS j (by omega), ih]
abbrev tail5 : IC := f5r11.seq ((f5r12.seq (.cond (.t 57) (f5r13.seq .ret) .skip)).seq (f5r14.seq ((f5r15.seq (.block 2 (.loop [7, 2, 9, 8] f5b25))).seq (f5r26.seq (f5r27.seq .ret)))))
theorem c5 (p i c sn : List Int) : callW tbl 5 [encS p i c, il sn] = some (.bool true, []) := by
  rw [call_run tbl (f := 5) (fn := f5) rfl _ rfl]
  have h17 := c17 p i c
  by_cases hs : p.length ≤ 30 ∧ i.length ≤ 30 ∧ c.length ≤ 30
  · obtain ⟨l1, l2, l3⟩ := hs
    have h18 := c18 p i c (by omega) (by omega) (by omega)
    simp [l1, l2, l3] at h17
    by_cases hv : vd p i c = 0
    · have ok := ok_of_vd hv
      rw [hv] at h18
      by_cases h60 : (60 : Int) < sn.length
      · simp [f5, f5body, h17, h18, h60, c10]
      · have ht := t5 sn (by omega) [.seq tail5] (some (.bool true, [])) (by
          intro a b d a' b' d' p i c Z e g1 g2 g3 ha hb hd al ok e2
          have lp := ok.ap.length
          have hb2 := t5b p.length lp p.length 0 (by omega) a b d a' b' d' p i c Z 0 rfl (fun _ => rfl) (fun m hm => by have := kn_range (ok.ap.1 m hm); omega) g1 g2 g3 ha hb hd al ok
          simp at hb2
          simp [-alen, e2, al, show ¬ (20 : Int) < p.length by omega, hb2]) sn.length 0 (by omega) (il p) (il i) (il c) (il p) (il i) (il c) p i c [] rfl rfl rfl (.il p) (.il i) (.il c) (by simp) ok
        simp [-f5r11_run] at ht
        simp [-f5r11_run, f5, f5body, h17, h18, h60, ht]
    · simp [f5, f5body, h17, h18, hv, c10]
  · rw [decide_eq_false hs] at h17
    simp [f5, f5body, h17, c10]
end Go.Proofs.YtlkfejigeeddaaaDoor
