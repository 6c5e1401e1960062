/- The program's Wait. No condition. -/
import Derived.Test.YtgppkhbidcgnlaaDoorWa
namespace Go.Proofs.YtgppkhbidcgnlaaDoor
open Go.PI
set_option maxRecDepth 100000
set_option maxHeartbeats 8000000
set_option linter.unusedSimpArgs false
theorem cv55 {es : List AV} {i n : Nat} (hn : es.length = n) (hi : i < n) (hb : n ≤ 1000000) (A Z : List AO) (g : Nat) :
    ∃ es' Z', es'.take (n - 1) = es.take i ++ es.drop (i + 1) ∧ callV tbl 55 [.ref A.length g 0 n, .int .i64 i, .int .i64 ((i : Int) + 1)] (A ++ .row 30 13 g es :: Z) = some (.ref A.length g 0 (n - 1), A ++ .row 30 13 g es' :: Z') := by
  have hd : (es.drop (i + 1)).take (n - (i + 1)) = es.drop (i + 1) := List.take_of_length_le (by simp; omega)
  have h0 : (es.take i).length = i := by simp; omega
  have h1 : (es.drop (i + 1)).length = n - (i + 1) := by simp; omega
  refine ⟨(es.take i ++ es.drop (i + 1) ++ es.drop (n - 1)).take (n - 1) ++ [tops 13] ++ (es.take i ++ es.drop (i + 1) ++ es.drop (n - 1)).drop n, Z ++ [.row 30 13 0 []], ?_, ?_⟩
  · rw [List.append_assoc, List.take_append_of_le_length (by simp; omega), List.take_take, Nat.min_self, List.take_append_of_le_length (by simp; omega), List.take_of_length_le (by simp; omega)]
  · rw [callV_run tbl (f := 55) (fn := f55) rfl _ _ rfl]
    have e1 : ((i : Int) + 1).toNat = i + 1 := by omega
    have e2 : i + (n - (i + 1)) = n - 1 := by omega
    simp [f55, f55body, hn, hd, h0, h1, e1, e2, show (0 : Int) ≤ (i : Int) + 1 by omega, show i + 1 ≤ n by omega, show i ≤ n by omega, show ¬ i = n by omega, show n - 1 ≤ n by omega, show n - (n - 1) = 1 by omega, show n - 1 + 1 = n by omega, show n ≤ i + (n - (i + 1) + 1) by omega, show ¬ (i : Int) = (i : Int) + 1 by omega]
abbrev R21 : Fin := .cl [.tmp 8, .tmp 9, .tmp 10, .tmp 11, .tmp 12]
abbrev tail21c : IC := f21r11.seq (f21r12.seq (f21r13.seq ((f21r14.seq (.cond (.t 51) f21r15 f21r16)).seq (f21r17.seq .ret))))
theorem t21c {l : List Px} (hb : BndL l) (hu : Up l) (j : Nat) (hj : j < l.length) (rest : List Px) (H : List AO) (q g : Nat) (hq : H[q]? = some (.row 30 13 g ((l[j] :: rest).map encX))) (e : Env) (e0 : e.get 0 = pX l) (e14 : e.get 14 = .ref q g 0 (rest.length + 1)) :
    run tbl R21 [] tail21c e H = oc5 l ⟨some (waL (l.map clX) j l[j]), l[j].r.pid, l[j].r.status, 1, 0⟩ := by
  have hix : ixG (pidX l[j].r.pid) l 0 = j := ixG_at hj (by simp) (fun i hi => by
    have := hu.lt (by omega) hj hi
    simp; omega)
  obtain ⟨Z, h52⟩ := cv52x (A := H ++ [.box 30 13 (encX l[j])]) hb.len (cv53 (j := H.length) (y := l[j]) (by simp)) (.sl l) []
  rw [hix] at h52
  have h54 := c54x hb
  have hj' : j < (l.map clX).length := by simpa using hj
  have gq := fun Z => getL (Z := Z) hq
  simp at h52 h54
  unfold waL
  by_cases h3 : l[j].r.state = 3
  · rw [if_pos h3, show ((j : Int)).toNat = j by omega]
    have hE := era (l := l.map clX) j
    have hEl : ((l.map clX).eraseIdx j).length = l.length - 1 := by rw [List.length_eraseIdx_of_lt hj']; simp
    generalize (l.map clX).eraseIdx j = R at hE hEl ⊢
    obtain ⟨es', Z', h1, h55⟩ := cv55 (es := (l.map clX).map encX) (i := j) (n := l.length) (by simp) hj hb.len (H ++ .box 30 13 (encX l[j]) :: Z) [] 0
    rw [← List.map_take, ← List.map_drop, ← hE] at h1
    have wj := wrapS j (by omega)
    simp at h55 wj
    simp [e0, e14, hq, gq, h52, h54, eq_true h3, wj, h55, hEl, h1, oc5]
  · rw [if_neg h3]
    have hu1 := upd_at (l.map clX) j hj' clr
    have hln := upd_len (l.map clX) j clr
    generalize upd (l.map clX) j clr = R at hu1 hln ⊢
    simp at hu1 hln
    simp [e0, e14, hq, gq, h52, h54, h3, hj, hu1, hln, clr, oc5]
abbrev tail21b : IC := f21r6.seq ((f21r7.seq (.cond (.t 35) ((f21r8.seq (.cond (.t 38) (f21r9.seq .ret) .skip)).seq (f21r10.seq .ret)) .skip)).seq tail21c)
theorem t21b {l : List Px} (hb : BndL l) (hu : Up l) (n w f : Int) (hne : l.any (meantB n w) = true) (A Z : List AO) (q g : Nat) (h2 : A[2]? = some (.box 3 1 (.int .i64 f))) (hq : A[q]? = some (.row 30 13 g ((l.filter (meantB n w)).map encX))) (e : Env) (e0 : e.get 0 = pX l) (e7 : e.get 7 = .bptr 2 0) (e13 : e.get 13 = .ref q g 0 (l.filter (meantB n w)).length) :
    run tbl R21 [] tail21b e (A ++ Z) = oc5 l (waF l (l.map clX) n w f false 0) := by
  have hM : (l.filter (meantB n w)).length ≤ 1000000 := Nat.le_trans (List.length_filter_le _ _) hb.len
  obtain ⟨g2, Z2, h48⟩ := cv48x (A := A) hM (fun B => cv50 (j := 2) (f := f) (getL h2)) (.rf q g _ hq) Z
  have hff : (l.filter (meantB n w)).filter (readyB f) = l.filter (mr n w f) := by
    rw [List.filter_filter]
    congr 1
    funext x
    simp [mr, Bool.and_comm]
  rw [hff] at h48
  unfold waF waE
  rw [List.drop_zero]
  rcases ixG_spec (mr n w f) l 0 with ⟨e1, e2⟩ | ⟨j, hj, e1, e2, e3⟩
  · rw [e1, if_pos (by omega), if_neg (by simp [hne])]
    have hnil : l.filter (mr n w f) = [] := List.filter_eq_nil_iff.2 (fun x hx => by simp [e2 x hx])
    rw [hnil] at h48
    simp at h48
    by_cases hf : abits .and .i64 f 1 = 0
    · simp [-f21r11_run, e0, e7, e13, h48, getL h2, hf, oc5]
    · simp [-f21r11_run, e0, e7, e13, h48, getL h2, hf, oc5]
  · rw [Nat.zero_add] at e1
    rw [e1, if_neg (by omega), atX_eq hj]
    obtain ⟨rest, hr⟩ : ∃ rest, l.filter (mr n w f) = l[j] :: rest := by
      refine ⟨(l.drop (j + 1)).filter (mr n w f), ?_⟩
      conv => lhs; rw [← List.take_append_drop j l]
      rw [List.filter_append, List.filter_eq_nil_iff.2 (fun x hx => by simp [e2 x hx]), List.nil_append, drop_step hj, List.filter_cons, if_pos e3]
    rw [hr] at h48
    have ht := t21c hb hu j hj rest (A ++ (Z ++ .row 30 13 0 [] :: .row 30 13 g2 ((l[j] :: rest).map encX) :: Z2)) (A.length + (Z.length + 1)) g2 (by rw [get_app_add, get_app_add]; rfl)
    generalize oc5 l ⟨some (waL (l.map clX) j l[j]), l[j].r.pid, l[j].r.status, 1, 0⟩ = R at ht ⊢
    rw [List.length_cons] at h48
    generalize (l[j] :: rest).map encX = E at h48 ht
    simp [-f21r11_run, e0, e7, e13, h48, show ¬ ((rest.length : Int) + 1 = 0) by omega]
    rw [← run_seq]
    exact ht _ (by simp) (by simp)
theorem c21x {l : List Px} (hb : BndL l) (hu : Up l) (n w f : Int) : callW tbl 21 [pX l, .int .i64 n, .int .i64 w, .int .i64 f] = oc5 l (waS l (l.map clX) n w f) := by
  rw [call_run tbl (f := 21) (fn := f21) rfl _ rfl]
  unfold waS
  have h47 := c47x hb.len n
  rcases ix_live (l := l) (n := n) with ⟨i1, _⟩ | ⟨k, hk, i1, _, _⟩
  · rw [i1] at h47 ⊢
    rw [if_pos (by omega)]
    simp [f21, f21body, h47, oc5]
  · rw [i1] at h47 ⊢
    rw [if_neg (by omega)]
    have nk : ¬ (k : Int) < 0 := by omega
    obtain ⟨g1, Z1, h48⟩ := cv48x (A := [.box 3 1 (.int .i64 n), .box 3 1 (.int .i64 w), .box 3 1 (.int .i64 f)]) hb.len (fun B => cv49 (n := n) (w := w) rfl rfl) (.sl l) [.row 30 13 0 []]
    cases ha : l.any (meantB n w)
    · have hnil : l.filter (meantB n w) = [] := List.filter_eq_nil_iff.2 (fun x hx => by
        intro hx2
        rw [List.any_eq_true.2 ⟨x, hx, hx2⟩] at ha; cases ha)
      have hix : ixG (mr n w f) l 0 = -1 := ixG_none (fun x hx => by
        cases hm : meantB n w x
        · simp [mr, hm]
        · rw [List.any_eq_true.2 ⟨x, hx, hm⟩] at ha; cases ha)
      unfold waF waE
      rw [List.drop_zero, hix, if_pos (by omega), ha, if_pos (by simp)]
      rw [hnil] at h48
      simp at h48
      simp [f21, f21body, h47, nk, h48, oc5]
    · have hpos : ¬ (((l.filter (meantB n w)).length : Int) = 0) := by
        obtain ⟨x, hx, hp⟩ := List.any_eq_true.1 ha
        have := List.length_pos_of_mem (List.mem_filter.2 ⟨hx, hp⟩)
        omega
      have ht := t21b hb hu n w f ha [.box 3 1 (.int .i64 n), .box 3 1 (.int .i64 w), .box 3 1 (.int .i64 f), .row 30 13 0 [], .row 30 13 0 [], .row 30 13 g1 ((l.filter (meantB n w)).map encX)] Z1 5 g1 rfl rfl
      generalize oc5 l (waF l (l.map clX) n w f false 0) = R at ht ⊢
      generalize l.filter (meantB n w) = M at h48 hpos ht
      simp at h48
      simp only [List.cons_append, List.nil_append] at ht
      simp [-f21r6_run, -List.length_eq_zero_iff, -Int.natCast_eq_zero, f21, f21body, h47, nk, h48, hpos]
      rw [← run_seq]
      exact ht _ (by simp) (by simp) (by simp)
end Go.Proofs.YtgppkhbidcgnlaaDoor
