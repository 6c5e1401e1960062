/- ProcStays: the tables that the operations leave; Valid accepts them; each operation keeps them; the law's function. No condition. -/
import Derived.Test.YtgppkhbidcgnlaaDoorOa
import Derived.Test.YtgppkhbidcgnlaaDoorSv
namespace Go.Proofs.YtgppkhbidcgnlaaDoor
open Go.PI
set_option maxRecDepth 100000
set_option maxHeartbeats 8000000
set_option linter.unusedSimpArgs false
/-- one process -/
structure One (r : Pr) : Prop where
  p : numB r.pid = true
  g : numB r.pgid = true
  s : numB r.sid = true
  s1 : 1 ≤ r.state
  s3 : r.state ≤ 3
  w : r.wake = 0
  a : r.sp = []
  b : r.si = []
  c : r.sc = []
  d : r.fds = []
  fit : fitB r = true
  z : r.state = 3 → r.changed = true
structure OkR (l : List Pr) : Prop where
  hd : ∃ x r, l = x :: r ∧ x.pid = 1 ∧ x.ppid = 0 ∧ x.state = 1
  len : l.length ≤ 64
  up : l.Pairwise (fun a b => a.pid < b.pid)
  one : ∀ x ∈ l, One x
  par : ∀ x ∈ l, x.pid ≠ 1 → ∃ q ∈ l, q.pid = x.ppid ∧ q.pid ≠ x.pid ∧ q.state ≠ 3
  grp : ∀ x ∈ l, ∀ y ∈ l, x.pgid = y.pgid → x.sid = y.sid
abbrev OkX (l : List Px) : Prop := OkR (l.map (·.r))
theorem OkX.one {l : List Px} (h : OkX l) {x : Px} (hx : x ∈ l) : One x.r := OkR.one h x.r (List.mem_map_of_mem hx)
theorem OkX.len {l : List Px} (h : OkX l) : l.length ≤ 64 := by simpa using OkR.len h
theorem OkX.bnd {l : List Px} (h : OkX l) : BndL l := ⟨by have := OkX.len h; omega, fun x hx => by
  have o := OkX.one h hx
  simp [BndX, o.a, o.b, o.c, o.d]⟩
/- the program's fits and bare -/
theorem c78x (x : Px) (hst : x.r.status ≤ 9223372036854775807) : callW tbl 78 [encX x] = some (.bool (fitB x.r), []) := by
  have h69 := c69 x.r.status hst
  rw [call_run tbl (f := 78) (fn := f78) rfl _ rfl]
  unfold fitB kd
  by_cases h1 : x.r.state = 1
  · by_cases h2 : x.r.status = 0
    · rw [h2] at h69
      cases h3 : x.r.changed <;> simp [f78, f78body, h69, h1, h2, h3, c75]
    · by_cases h4 : x.r.status = 768
      · rw [h4] at h69
        simp [f78, f78body, h69, h1, h4, c75]
      · simp [f78, f78body, h69, h1, h2, h4, c75]
  · by_cases h2 : x.r.state = 2
    · by_cases h3 : (kdv x.r.status).1 = 2 <;> simp [f78, f78body, h69, h2, h3]
    · by_cases h3 : (kdv x.r.status).1 = 0
      · simp [f78, f78body, h69, h1, h2, h3]
      · by_cases h4 : (kdv x.r.status).1 = 1 <;> simp [f78, f78body, h69, h1, h2, h3, h4]
theorem c79x (x : Px) (o : One x.r) (hz : x.r.state = 3) : callW tbl 79 [encX x] = some (.bool true, []) := by
  rw [call_run tbl (f := 79) (fn := f79) rfl _ rfl]
  simp [f79, f79body, o.a, o.b, o.c, o.d, o.w, o.z hz]
theorem vd_nil : vd0 [] [] [] = 0 := by decide
theorem c80x (x : Px) (o : One x.r) : callW tbl 80 [.agg [x.a, x.b, x.c]] = some (.int .i64 0, []) := by
  have h := c80 (a := x.a) (b := x.b) (d := x.c) (p := x.r.sp) (i := x.r.si) (c := x.r.sc) (by simp [o.a]) (by simp [o.b]) (by simp [o.c]) x.ha x.hb x.hc
  rw [o.a, o.b, o.c, vd_nil] at h
  exact h
theorem cv81 (p : Px) : Looks 81 [.bptr 0 0] (fun q => decide (q.r.pid = p.r.ppid) && decide (q.r.pid ≠ p.r.pid) && decide (q.r.state ≠ 3)) [.box 30 13 (encX p)] := by
  intro x Z
  refine ⟨[.box 30 13 (encX x)], ?_⟩
  have h := c70x x
  rw [callV_run tbl (f := 81) (fn := f81) rfl _ _ rfl]
  by_cases h1 : x.r.pid = p.r.ppid
  · by_cases h2 : x.r.pid = p.r.pid
    · simp [f81, f81body, eq_true h1, eq_true h2]
    · simp [f81, f81body, eq_true h1, h2, h]
  · simp [f81, f81body, h1]
theorem cv82 (p : Px) : Looks 82 [.bptr 0 0] (fun q => decide (q.r.pgid = p.r.pgid) && decide (q.r.sid ≠ p.r.sid)) [.box 30 13 (encX p)] := by
  intro x Z
  refine ⟨[.box 30 13 (encX x)], ?_⟩
  rw [callV_run tbl (f := 82) (fn := f82) rfl _ _ rfl]
  by_cases h1 : x.r.pgid = p.r.pgid
  · by_cases h2 : x.r.sid = p.r.sid
    · simp [f82, f82body, eq_true h1, eq_true h2]
    · simp [f82, f82body, eq_true h1, h2]
  · simp [f82, f82body, h1]
theorem fit_le {r : Pr} (h : fitB r = true) : r.status ≤ 9223372036854775807 := by
  unfold fitB kd kdv at h
  split at h
  · simp at h; omega
  · by_cases h1 : r.status < 0 ∨ 768 < r.status
    · rcases h1 with h1 | h1
      · omega
      · simp [h1] at h
    · omega
theorem c42x {l : List Px} (h : OkX l) (i : Nat) (hi : i < l.length) : callW tbl 42 [pX l, .int .i64 i] = some (.int .i64 0, []) := by
  have hL := OkX.len h
  have o := OkX.one h (List.getElem_mem hi)
  have h1 := c65 l[i].r.pid
  have h2 := c65 l[i].r.pgid
  have h3 := c65 l[i].r.sid
  rw [o.p] at h1; rw [o.g] at h2; rw [o.s] at h3
  have h78 := c78x l[i] (fit_le o.fit)
  rw [o.fit] at h78
  have h80 := c80x l[i] o
  have hs1 := o.s1
  have hs3 := o.s3
  have hw := o.w
  have h79 := c79x l[i] o
  have hpid : ∀ j (hj : j < l.length), j < i → ¬ l[i].r.pid ≤ l[j].r.pid := by
    intro j hj hji
    have := Up.lt (l := l) (OkR.up h) hj hi hji
    omega
  have hg : (l.any fun q => decide (q.r.pgid = l[i].r.pgid) && decide (q.r.sid ≠ l[i].r.sid)) = false := by
    rw [List.any_eq_false]
    intro q hq
    simp only [Bool.and_eq_true, decide_eq_true_eq, not_and, Decidable.not_not]
    intro e
    exact OkR.grp h q.r (List.mem_map_of_mem hq) l[i].r (List.mem_map_of_mem (List.getElem_mem hi)) e
  have f1 : ¬ l[i].r.state < 1 := by omega
  have f2 : ¬ 3 < l[i].r.state := by omega
  have f3 : ¬ l[i].r.wake < 0 := by omega
  have f4 : ¬ 1073741824 < l[i].r.wake := by omega
  clear hw
  rw [call_run tbl (f := 42) (fn := f42) rfl _ rfl]
  cases i with
  | zero =>
    obtain ⟨Z2, h82⟩ := cv63x (l := l) (by omega) (cv82 l[0]) (.sl l) []
    rw [hg] at h82
    simp at h82
    by_cases hz : l[0].r.state = 3
    · simp [f42, f42body, hi, h1, h2, h3, h78, h80, hs1, hs3, eq_false f1, eq_false f2, eq_false f3, eq_false f4, h79 hz, eq_true hz, h82]
    · simp [f42, f42body, hi, h1, h2, h3, h78, h80, hs1, hs3, eq_false f1, eq_false f2, eq_false f3, eq_false f4, hz, h82]
  | succ j =>
    have hj : j < l.length := by omega
    have wj := wrap64 (j : Int) (by omega) (by omega)
    have hp1 : ¬ l[j + 1].r.pid ≤ l[j].r.pid := hpid j hj (by omega)
    have hpa : (l.any fun q => decide (q.r.pid = l[j + 1].r.ppid) && decide (q.r.pid ≠ l[j + 1].r.pid) && decide (q.r.state ≠ 3)) = true := by
      have hne : l[j + 1].r.pid ≠ 1 := by
        obtain ⟨x, r, hx, hx1, _, _⟩ := OkR.hd h
        have h0 : l[0].r.pid = 1 := by
          have : (l.map (·.r))[0]? = some x := by rw [hx]; rfl
          rw [List.getElem?_map, List.getElem?_eq_getElem (by omega)] at this
          simp at this
          rw [this]; exact hx1
        have := Up.lt (l := l) (OkR.up h) (i := 0) (by omega) hi (by omega)
        omega
      obtain ⟨q, hq, q1, q2, q3⟩ := OkR.par h l[j + 1].r (List.mem_map_of_mem (List.getElem_mem hi)) hne
      obtain ⟨y, hy, rfl⟩ := List.mem_map.1 hq
      rw [List.any_eq_true]
      exact ⟨y, hy, by simp [q1, q2, q3]; exact fun e => q2 (q1.trans e)⟩
    obtain ⟨Z1, h81⟩ := cv63x (l := l) (by omega) (cv81 l[j + 1]) (.sl l) []
    rw [hpa] at h81
    obtain ⟨Z2, h82⟩ := cv63x (l := l) (by omega) (cv82 l[j + 1]) (.sl l) Z1
    rw [hg] at h82
    simp at h82 h81
    by_cases hz : l[j + 1].r.state = 3
    · simp [f42, f42body, hi, hj, wj, hp1, h1, h2, h3, h78, h80, hs1, hs3, eq_false f1, eq_false f2, eq_false f3, eq_false f4, h79 hz, eq_true hz, h81, h82, show (0 : Int) < (j : Int) + 1 by omega, show (j : Int) + 1 < l.length by omega, show (0 : Int) ≤ (j : Int) + 1 by omega]
    · simp [f42, f42body, hi, hj, wj, hp1, h1, h2, h3, h78, h80, hs1, hs3, eq_false f1, eq_false f2, eq_false f3, eq_false f4, hz, h81, h82, show (0 : Int) < (j : Int) + 1 by omega, show (j : Int) + 1 < l.length by omega, show (0 : Int) ≤ (j : Int) + 1 by omega]
theorem t14x {l : List Px} (h : OkX l) : ∀ (k i : Nat), i + k = l.length → run tbl (.cl [.tmp 2]) [.blk 0, .seq (f14r13.seq .ret)] (.loop [33, 0, 34] f14b12) [(33, .int .i64 l.length), (0, pX l), (34, .int .i64 i)] [] = some (.int .i64 0, [])
  | 0, i, hk => by
    rw [run_loopD _ _ f14b12_eq]
    simp [show ¬ i < l.length by omega]
  | k + 1, i, hk => by
    have hi : i < l.length := by omega
    have hL := OkX.len h
    have ih := t14x h k (i + 1) (by omega)
    rw [Int.natCast_succ] at ih
    rw [run_loopD _ _ f14b12_eq]
    simp [hi, c42x h i hi, wrapS i (by omega), ih]
theorem c14x {l : List Px} (h : OkX l) : callW tbl 14 [pX l] = some (.int .i64 0, []) := by
  have hL := OkX.len h
  have ht := t14x h l.length 0 (by omega)
  rw [call_run tbl (f := 14) (fn := f14) rfl _ rfl]
  obtain ⟨x, r, hx, hx1, hx2, hx3⟩ := OkR.hd h
  cases l with
  | nil => simp at hx
  | cons y q =>
    obtain rfl : y.r = x := by simp at hx; exact hx.1
    simp at ht
    simp at hL
    simp [f14, f14body, hx1, hx2, hx3, show ¬ (64 : Int) < (q.length : Int) + 1 by omega, show ¬ (q.length : Int) + 1 = 0 by omega, ht]
theorem OkR.set {P : List Pr} (h : OkR P) {k : Nat} (hk : k < P.length) (p' : Pr) (e1 : p'.pid = P[k].pid) (e2 : p'.ppid = P[k].ppid) (o : One p') (hs : p'.state ≠ 3 ∨ P[k].state = 3) (hs1 : p'.pid = 1 → p'.state = 1)
    (hg : ∀ j (hj : j < P.length), j ≠ k → P[j].pgid = p'.pgid → P[j].sid = p'.sid) : OkR (P.set k p') := by
  have hm : ∀ x ∈ P.set k p', x = p' ∨ ∃ j, ∃ hj : j < P.length, j ≠ k ∧ x = P[j] := by
    intro x hx
    obtain ⟨j, hj, rfl⟩ := List.mem_iff_getElem.1 hx
    rw [List.getElem_set]
    split
    · exact .inl rfl
    · rename_i hne
      exact .inr ⟨j, by simpa using hj, fun e => hne e.symm, rfl⟩
  have hin : ∀ j (hj : j < P.length), j ≠ k → P[j] ∈ P.set k p' := by
    intro j hj hne
    refine List.mem_iff_getElem.2 ⟨j, by simpa using hj, ?_⟩
    rw [List.getElem_set, if_neg (fun e => hne e.symm)]
  have hin' : p' ∈ P.set k p' := List.mem_iff_getElem.2 ⟨k, by simpa using hk, by rw [List.getElem_set, if_pos rfl]⟩
  have hpid : (P.set k p').map (·.pid) = P.map (·.pid) := by
    rw [List.map_set, e1]
    have : (P.map (·.pid)).set k P[k].pid = P.map (·.pid) := by
      apply List.ext_getElem (by simp)
      intro j h1 h2
      rw [List.getElem_set]
      split
      · rename_i e; subst e; simp
      · rfl
    exact this
  refine ⟨?_, by simpa using h.len, ?_, ?_, ?_, ?_⟩
  · obtain ⟨x, r, rfl, a, b, c⟩ := h.hd
    cases k with
    | zero => exact ⟨p', r, rfl, by rw [e1]; exact a, by rw [e2]; exact b, hs1 (by rw [e1]; exact a)⟩
    | succ k => exact ⟨x, r.set k p', rfl, a, b, c⟩
  · have := h.up
    have h1 : (P.map (·.pid)).Pairwise (· < ·) := List.pairwise_map.2 this
    rw [← hpid] at h1
    exact List.pairwise_map.1 h1
  · intro x hx
    rcases hm x hx with rfl | ⟨j, hj, _, rfl⟩
    · exact o
    · exact h.one _ (List.getElem_mem hj)
  · have key : ∀ x : Pr, x.pid ≠ 1 → (∃ q ∈ P, q.pid = x.ppid ∧ q.pid ≠ x.pid ∧ q.state ≠ 3) → ∃ q ∈ P.set k p', q.pid = x.ppid ∧ q.pid ≠ x.pid ∧ q.state ≠ 3 := by
      rintro x hx ⟨q, hq, a, b, c⟩
      obtain ⟨j, hj, rfl⟩ := List.mem_iff_getElem.1 hq
      by_cases e : j = k
      · subst e
        refine ⟨p', hin', by rw [e1]; exact a, by rw [e1]; exact b, ?_⟩
        rcases hs with hs | hs
        · exact hs
        · exact absurd hs c
      · exact ⟨_, hin j hj e, a, b, c⟩
    intro x hx hx1
    rcases hm x hx with rfl | ⟨j, hj, hne, rfl⟩
    · refine key _ hx1 ?_
      obtain ⟨q, hq, a, b, c⟩ := h.par _ (List.getElem_mem hk) (by rw [← e1]; exact hx1)
      exact ⟨q, hq, by rw [e2]; exact a, by rw [e1]; exact b, c⟩
    · exact key _ hx1 (h.par _ (List.getElem_mem hj) hx1)
  · intro x hx y hy e
    rcases hm x hx with rfl | ⟨j, hj, hne, rfl⟩
    · rcases hm y hy with rfl | ⟨i, hi, hne, rfl⟩
      · rfl
      · exact (hg i hi hne e.symm).symm
    · rcases hm y hy with rfl | ⟨i, hi, hni, rfl⟩
      · exact hg j hj hne e
      · exact h.grp _ (List.getElem_mem hj) _ (List.getElem_mem hi) e
/- on lists of Px -/
theorem r_cl (l : List Px) : (l.map clX).map (·.r) = l.map (·.r) := by simp [List.map_map, Function.comp_def, clX, toX]
theorem r_upd {l : List Px} {k : Nat} (hk : k < l.length) (f : Px → Px) : (upd (l.map clX) k f).map (·.r) = (l.map (·.r)).set k (f (clX l[k])).r := by
  unfold upd
  rw [show ((k : Int)).toNat = k by omega, List.getElem?_map, List.getElem?_eq_getElem hk]
  simp only [Option.map_some, List.map_set, r_cl]
theorem OkX.set {l : List Px} (h : OkX l) {k : Nat} (hk : k < l.length) (f : Px → Px) (e1 : (f (clX l[k])).r.pid = l[k].r.pid) (e2 : (f (clX l[k])).r.ppid = l[k].r.ppid) (o : One (f (clX l[k])).r) (hs : (f (clX l[k])).r.state ≠ 3 ∨ l[k].r.state = 3) (hs1 : (f (clX l[k])).r.pid = 1 → (f (clX l[k])).r.state = 1)
    (hg : ∀ j (hj : j < l.length), j ≠ k → l[j].r.pgid = (f (clX l[k])).r.pgid → l[j].r.sid = (f (clX l[k])).r.sid) : OkX (upd (l.map clX) k f) := by
  unfold OkX
  rw [r_upd hk]
  refine OkR.set h (by simpa using hk) _ (by simpa using e1) (by simpa using e2) o (by simpa using hs) hs1 ?_
  intro j hj hne
  simp only [List.getElem_map]
  exact hg j (by simpa using hj) hne
theorem One.run {r : Pr} (h : One r) : 1 ≤ r.pid ∧ r.pid ≤ 2147483647 := by
  have := h.p
  simp [numB] at this
  exact this
theorem pid_one {l : List Px} (h : OkX l) {k : Nat} (hk : k < l.length) (e : l[k].r.pid = 1) : l[k].r.state = 1 ∧ l[k].r.ppid = 0 := by
  obtain ⟨x, r, hx, a, b, c⟩ := OkR.hd h
  cases l with
  | nil => simp at hk
  | cons y q =>
    obtain rfl : y.r = x := by simp at hx; exact hx.1
    cases k with
    | zero => exact ⟨c, b⟩
    | succ k =>
      have := Up.lt (l := y :: q) (OkR.up h) (i := 0) (j := k + 1) (by simp) hk (by omega)
      simp at this e
      omega
theorem ok_chg {l R : List Px} (h : OkX l) {n s st e : Int} (hr : chg l (l.map clX) n s st = (some R, e)) : OkX R ∧ R.length = l.length := by
  unfold chg at hr
  rcases ix_live (l := l) (n := n) with ⟨hi, _⟩ | ⟨k, hk, hi, hp, hst⟩
  · rw [hi] at hr; simp at hr
  · rw [hi] at hr
    split at hr
    · cases hr
    · split at hr
      · cases hr
      · rename_i hn
        split at hr
        · cases hr
        · rename_i hok
          split at hr
          · cases hr
          · cases hr
            refine ⟨OkX.set h hk _ rfl rfl ?_ ?_ ?_ ?_, by rw [upd_len]; simp⟩
            · have o := OkX.one h (List.getElem_mem hk)
              simp only [Decidable.not_not] at hok
              rcases hok with ⟨rfl, hk2⟩ | ⟨rfl, rfl⟩
              · exact ⟨o.p, o.g, o.s, by simp [setSt], by simp [setSt], o.w, o.a, o.b, o.c, o.d, by simp [setSt, fitB, hk2], by simp [setSt]⟩
              · exact ⟨o.p, o.g, o.s, by simp [setSt], by simp [setSt], o.w, o.a, o.b, o.c, o.d, by simp [setSt, fitB], by simp [setSt]⟩
            · left
              simp only [Decidable.not_not] at hok
              rcases hok with ⟨rfl, _⟩ | ⟨rfl, _⟩ <;> simp [setSt]
            · intro hh
              exact absurd (hp.symm.trans hh) hn
            · intro j hj _ e
              exact OkR.grp h l[j].r (List.mem_map_of_mem (List.getElem_mem hj)) l[k].r (List.mem_map_of_mem (List.getElem_mem hk)) e
theorem ok_ses {l R : List Px} (h : OkX l) {n e : Int} (hr : sesP l n = (some R, e)) : OkX R ∧ R.length = l.length := by
  unfold sesP at hr
  rcases ix_live (l := l) (n := n) with ⟨hi, _⟩ | ⟨k, hk, hi, hp, hst⟩
  · rw [hi] at hr; simp at hr
  · rw [hi] at hr
    split at hr
    · cases hr
    · split at hr
      · cases hr
      · rename_i hno
        cases hr
        have o := OkX.one h (List.getElem_mem hk)
        refine ⟨OkX.set h hk _ rfl rfl ?_ (.inl hst) ?_ ?_, by rw [upd_len]; simp⟩
        · exact ⟨o.p, by rw [← hp]; exact o.p, by rw [← hp]; exact o.p, o.s1, o.s3, o.w, o.a, o.b, o.c, o.d, o.fit, o.z⟩
        · intro hh
          exact (pid_one h hk hh).1
        · intro j hj _ e
          exfalso
          apply hno
          rw [List.any_eq_true]
          exact ⟨_, List.getElem_mem hj, by simpa [setSes] using e⟩
theorem ok_grp {l R : List Px} (h : OkX l) {n w g e : Int} (hr : grp l (l.map clX) n w g = (some R, e)) : OkX R ∧ R.length = l.length := by
  unfold grp at hr
  rcases ix_live (l := l) (n := w) with ⟨hi, _⟩ | ⟨k, hk, hi, hp, hst⟩
  · rw [hi] at hr; simp at hr
  · rw [hi] at hr
    split at hr
    · cases hr
    · split at hr
      · cases hr
      · rename_i hg
        have hq : 1 ≤ w ∧ w ≤ 2147483647 := by have := (OkX.one h (List.getElem_mem hk)).run; omega
        have hg2 : 1 ≤ (if g = 0 then w else g) ∧ (if g = 0 then w else g) ≤ 2147483647 := by split <;> omega
        generalize (if g = 0 then w else g) = g2 at hr hg2
        unfold grpT at hr
        split at hr
        · cases hr
        · split at hr
          · cases hr
          · rename_i hout
            split at hr
            · cases hr
            · cases hr
              have o := OkX.one h (List.getElem_mem hk)
              rw [atX_eq hk] at hout
              refine ⟨OkX.set h hk _ rfl rfl ?_ (.inl hst) ?_ ?_, by rw [upd_len]; simp⟩
              · refine ⟨o.p, ?_, o.s, o.s1, o.s3, o.w, o.a, o.b, o.c, o.d, o.fit, o.z⟩
                show numB g2 = true
                simp [numB]; omega
              · intro hh
                exact (pid_one h hk hh).1
              · intro j hj _ e
                rw [Bool.not_eq_true, List.any_eq_false] at hout
                have := hout _ (List.getElem_mem hj)
                simp only [outG, Bool.and_eq_true, decide_eq_true_eq, not_and, Decidable.not_not] at this
                exact this e
/- exit -/
def repR (n : Int) (r : Pr) : Pr := if r.ppid = n then { r with ppid := 1 } else r
theorem repR_pid (n : Int) (r : Pr) : (repR n r).pid = r.pid := by unfold repR; split <;> rfl
theorem repR_pgid (n : Int) (r : Pr) : (repR n r).pgid = r.pgid := by unfold repR; split <;> rfl
theorem repR_sid (n : Int) (r : Pr) : (repR n r).sid = r.sid := by unfold repR; split <;> rfl
theorem repR_state (n : Int) (r : Pr) : (repR n r).state = r.state := by unfold repR; split <;> rfl
theorem repR_one {n : Int} {r : Pr} (h : One r) : One (repR n r) := by
  unfold repR
  split
  · exact ⟨h.p, h.g, h.s, h.s1, h.s3, h.w, h.a, h.b, h.c, h.d, h.fit, h.z⟩
  · exact h
def zomR (st : Int) (r : Pr) : Pr := { r with state := 3, status := st, changed := true, wake := 0, sp := [], si := [], sc := [], fds := [] }
theorem fit_zom {st : Int} {r : Pr} (h : kd st = 0 ∨ kd st = 1) : fitB (zomR st r) = true := by
  show (if (3 : Int) = 1 then _ else if (3 : Int) = 2 then _ else (decide (kd st = 0) || decide (kd st = 1))) = true
  rw [if_neg (by decide), if_neg (by decide)]
  rcases h with h | h <;> rw [h] <;> rfl
theorem fit_clr {r : Pr} (h : fitB r = true) : fitB { r with changed := false } = true := by
  obtain ⟨_, _, _, _, state, status, changed, _, _, _, _, _, _⟩ := r
  unfold fitB at h ⊢
  simp only at h ⊢
  split
  · rename_i h1
    rw [if_pos h1] at h
    simp at h ⊢
    rcases h with h | h
    · exact .inl h.1
    · exact .inr h
  · rename_i h1
    rw [if_neg h1] at h
    exact h
theorem OkR.exit {P : List Pr} (h : OkR P) {k : Nat} (hk : k < P.length) {n st : Int} (hn : P[k].pid = n) (h1 : n ≠ 1) (hst : kd st = 0 ∨ kd st = 1) : OkR ((P.set k (zomR st P[k])).map (repR n)) := by
  have hm : ∀ x ∈ (P.set k (zomR st P[k])).map (repR n), ∃ y, x = repR n y ∧ ((y = zomR st P[k]) ∨ ∃ j, ∃ hj : j < P.length, j ≠ k ∧ y = P[j]) := by
    intro x hx
    obtain ⟨y, hy, rfl⟩ := List.mem_map.1 hx
    refine ⟨y, rfl, ?_⟩
    obtain ⟨j, hj, rfl⟩ := List.mem_iff_getElem.1 hy
    rw [List.getElem_set]
    split
    · exact .inl rfl
    · rename_i hne
      exact .inr ⟨j, by simpa using hj, fun e => hne e.symm, rfl⟩
  have hin : ∀ j (hj : j < P.length), j ≠ k → repR n P[j] ∈ (P.set k (zomR st P[k])).map (repR n) := by
    intro j hj hne
    refine List.mem_map_of_mem (List.mem_iff_getElem.2 ⟨j, by simpa using hj, ?_⟩)
    rw [List.getElem_set, if_neg (fun e => hne e.symm)]
  have oz : One (zomR st P[k]) := by
    have o := h.one _ (List.getElem_mem hk)
    exact ⟨o.p, o.g, o.s, by simp [zomR], by simp [zomR], rfl, rfl, rfl, rfl, rfl, fit_zom hst, by simp [zomR]⟩
  have hpid : ((P.set k (zomR st P[k])).map (repR n)).map (·.pid) = P.map (·.pid) := by
    apply List.ext_getElem (by simp)
    intro j a b
    simp only [List.getElem_map, repR_pid, List.getElem_set]
    split
    · rename_i e; subst e; rfl
    · rfl
  -- the first process
  obtain ⟨x0, r0, hP, a0, b0, c0⟩ := h.hd
  have hk0 : k ≠ 0 := by
    rintro rfl
    subst hP
    exact h1 (by rw [← hn]; exact a0)
  have h0l : 0 < P.length := by rw [hP]; simp
  have hP0 : P[0] = x0 := by simp [hP]
  have hn1 : 1 ≤ n := by
    have := (h.one _ (List.getElem_mem hk)).p
    simp [numB] at this
    omega
  have hr0 : repR n P[0] = x0 := by
    unfold repR
    rw [hP0, b0, if_neg (by omega)]
  have hin0 := hin 0 h0l (fun e => hk0 e.symm)
  rw [hr0] at hin0
  refine ⟨?_, by simpa using h.len, ?_, ?_, ?_, ?_⟩
  · cases k with
    | zero => exact absurd rfl hk0
    | succ k =>
      subst hP
      simp only [List.set_cons_succ, List.map_cons]
      refine ⟨_, _, rfl, ?_, ?_, ?_⟩
      · rw [repR_pid]; exact a0
      · unfold repR; rw [b0, if_neg (by omega)]; exact b0
      · rw [repR_state]; exact c0
  · have h2 : (P.map (·.pid)).Pairwise (· < ·) := List.pairwise_map.2 h.up
    rw [← hpid] at h2
    exact List.pairwise_map.1 h2
  · intro x hx
    obtain ⟨y, rfl, rfl | ⟨j, hj, _, rfl⟩⟩ := hm x hx
    · exact repR_one oz
    · exact repR_one (h.one _ (List.getElem_mem hj))
  · intro x hx hx1
    have key : ∀ y : Pr, y.pid ≠ 1 → (∃ q ∈ P, q.pid = y.ppid ∧ q.pid ≠ y.pid ∧ q.state ≠ 3) → ∃ q ∈ (P.set k (zomR st P[k])).map (repR n), q.pid = (repR n y).ppid ∧ q.pid ≠ (repR n y).pid ∧ q.state ≠ 3 := by
      rintro y hy ⟨q, hq, a, b, c⟩
      by_cases e : y.ppid = n
      · refine ⟨x0, hin0, ?_, ?_, by rw [c0]; decide⟩
        · unfold repR; rw [if_pos e]; exact a0
        · rw [repR_pid, a0]; exact fun e => hy e.symm
      · obtain ⟨j, hj, rfl⟩ := List.mem_iff_getElem.1 hq
        have hjk : j ≠ k := by
          rintro rfl
          exact e (by rw [← a, hn])
        refine ⟨_, hin j hj hjk, ?_, ?_, ?_⟩
        · rw [repR_pid, show (repR n y).ppid = y.ppid by unfold repR; rw [if_neg e]]; exact a
        · rw [repR_pid, repR_pid]; exact b
        · rw [repR_state]; exact c
    obtain ⟨y, rfl, rfl | ⟨j, hj, _, rfl⟩⟩ := hm x hx
    · rw [repR_pid] at hx1
      exact key (zomR st P[k]) hx1 (h.par P[k] (List.getElem_mem hk) hx1)
    · rw [repR_pid] at hx1
      exact key _ hx1 (h.par _ (List.getElem_mem hj) hx1)
  · have key : ∀ x ∈ (P.set k (zomR st P[k])).map (repR n), ∃ j, ∃ hj : j < P.length, x.pgid = P[j].pgid ∧ x.sid = P[j].sid := by
      intro x hx
      obtain ⟨y, rfl, rfl | ⟨j, hj, _, rfl⟩⟩ := hm x hx
      · exact ⟨k, hk, by rw [repR_pgid]; rfl, by rw [repR_sid]; rfl⟩
      · exact ⟨j, hj, by rw [repR_pgid], by rw [repR_sid]⟩
    intro x hx y hy e
    obtain ⟨i, hi, a, b⟩ := key x hx
    obtain ⟨j, hj, c, d⟩ := key y hy
    rw [b, d]
    exact h.grp _ (List.getElem_mem hi) _ (List.getElem_mem hj) (by rw [← a, ← c]; exact e)
theorem r_rep (n : Int) (x : Px) : (rep n x).r = repR n x.r := by unfold rep repR; split <;> rfl
theorem ok_exi {l R : List Px} (h : OkX l) {n st e : Int} (hr : exi l (l.map clX) n st = (some R, e)) : OkX R ∧ R.length = l.length := by
  unfold exi at hr
  rcases ix_live (l := l) (n := n) with ⟨hi, _⟩ | ⟨k, hk, hi, hp, hst⟩
  · rw [hi] at hr; simp at hr
  · rw [hi] at hr
    split at hr
    · cases hr
    · split at hr
      · cases hr
      · rename_i hn
        split at hr
        · cases hr
        · rename_i hok
          cases hr
          refine ⟨?_, by rw [List.length_map, upd_len]; simp⟩
          have hx := OkR.exit h (k := k) (by simpa using hk) (n := n) (st := st) (by simpa using hp) hn (Decidable.not_not.1 hok)
          unfold OkX
          rw [List.map_map, show (fun x : Px => x.r) ∘ rep n = repR n ∘ (·.r) from funext fun x => r_rep n x, ← List.map_map, r_upd hk, show (zomb st (clX l[k])).r = zomR st l[k].r from rfl]
          simpa using hx
/- wait -/
theorem OkR.erase {P : List Pr} (h : OkR P) {k : Nat} (hk : k < P.length) (hz : P[k].state = 3) : OkR (P.eraseIdx k) := by
  have hsub : ∀ x ∈ P.eraseIdx k, x ∈ P := fun x hx => List.mem_of_mem_eraseIdx hx
  have hin : ∀ q ∈ P, q.state ≠ 3 → q ∈ P.eraseIdx k := by
    intro q hq hs
    obtain ⟨j, hj, rfl⟩ := List.mem_iff_getElem.1 hq
    rw [List.mem_eraseIdx_iff_getElem]
    exact ⟨j, hj, fun e => hs (by subst e; exact hz), rfl⟩
  refine ⟨?_, ?_, ?_, fun x hx => h.one x (hsub x hx), ?_, fun x hx y hy => h.grp x (hsub x hx) y (hsub y hy)⟩
  · obtain ⟨x, r, rfl, a, b, c⟩ := h.hd
    cases k with
    | zero => simp at hz; omega
    | succ k => exact ⟨x, r.eraseIdx k, rfl, a, b, c⟩
  · have := h.len
    rw [List.length_eraseIdx]
    split <;> omega
  · exact h.up.sublist (List.eraseIdx_sublist ..)
  · intro x hx hx1
    obtain ⟨q, hq, a, b, c⟩ := h.par x (hsub x hx) hx1
    exact ⟨q, hin q hq c, a, b, c⟩
theorem ok_wai {l R : List Px} (h : OkX l) {n w f : Int} (hr : (waS l (l.map clX) n w f).l = some R) : OkX R ∧ (R.length = l.length ∨ R.length + 1 = l.length) := by
  unfold waS at hr
  split at hr
  · cases hr
  · unfold waF at hr
    rw [List.drop_zero] at hr
    rcases ixG_spec (mr n w f) l 0 with ⟨hi, _⟩ | ⟨k, hk, hi, _, _⟩
    · rw [hi] at hr
      simp only [show ((-1 : Int) < 0) = True from by simp, if_true] at hr
      unfold waE at hr
      split at hr <;> cases hr
    · rw [hi, Nat.zero_add] at hr
      rw [if_neg (by omega)] at hr
      have hr := Option.some.inj hr
      rw [atX_eq hk] at hr
      unfold waL at hr
      have o := OkX.one h (List.getElem_mem hk)
      split at hr
      · rename_i hz
        subst hr
        rw [show ((k : Int)).toNat = k by omega]
        refine ⟨?_, .inr ?_⟩
        · unfold OkX
          rw [List.eraseIdx_eq_take_drop_succ, List.map_append, List.map_take, List.map_drop, ← List.eraseIdx_eq_take_drop_succ, r_cl]
          exact OkR.erase h (by simpa using hk) (by simpa using hz)
        · rw [List.length_eraseIdx]
          simp [hk]; omega
      · rename_i hz
        subst hr
        refine ⟨OkX.set h hk _ rfl rfl ?_ (.inl hz) ?_ ?_, .inl (by rw [upd_len]; simp)⟩
        · refine ⟨o.p, o.g, o.s, o.s1, o.s3, o.w, o.a, o.b, o.c, o.d, ?_, fun e => absurd e hz⟩
          exact fit_clr o.fit
        · intro hh
          exact (pid_one h hk hh).1
        · intro j hj _ e
          exact OkR.grp h l[j].r (List.mem_map_of_mem (List.getElem_mem hj)) l[k].r (List.mem_map_of_mem (List.getElem_mem hk)) e
/- fork -/
theorem ok_frk {l R : List Px} (h : OkX l) {n ch e : Int} (hr : frk l (l.map clX) n ch (kidP n ch (atX l (ixG (liveX n) l 0))) = (some R, e)) : OkX R ∧ R.length = l.length + 1 := by
  unfold frk at hr
  rcases ix_live (l := l) (n := n) with ⟨hi, _⟩ | ⟨k, hk, hi, hp, hst⟩
  · rw [hi] at hr; simp at hr
  · rw [hi, atX_eq hk] at hr
    split at hr
    · cases hr
    · split at hr
      · cases hr
      · rename_i hnum
        split at hr
        · cases hr
        · rename_i hany
          split at hr
          · cases hr
          · rename_i h64
            cases hr
            have o := OkX.one h (List.getElem_mem hk)
            have hne : ∀ x ∈ l, x.r.pid ≠ ch := by
              rw [Bool.not_eq_true, List.any_eq_false] at hany
              intro x hx hh
              exact hany x hx (by simpa using hh)
            have hpl := plc_le l ch
            have hplc : plc (l.map clX) ch 0 = plc l ch 0 := by
              unfold plc
              rw [List.drop_zero, List.drop_zero, List.takeWhile_map, List.length_map]
              rfl
            have hup : Up (insL (l.map clX) (plc l ch 0) (kidP n ch l[k])) := by
              rw [← hplc]
              refine up_insL (l := l.map clX) ?_ ?_ rfl
              · show ((l.map clX).map (·.r)).Pairwise _
                rw [r_cl]; exact OkR.up h
              · intro x hx
                obtain ⟨y, hy, rfl⟩ := List.mem_map.1 hx
                exact hne y hy
            have hmem : ∀ x ∈ (insL (l.map clX) (plc l ch 0) (kidP n ch l[k])).map (·.r), x = kidR n ch l[k].r ∨ x ∈ l.map (·.r) := by
              intro x hx
              rw [map_insL, r_cl] at hx
              exact mem_insL hx
            have hin : ∀ x ∈ l.map (·.r), x ∈ (insL (l.map clX) (plc l ch 0) (kidP n ch l[k])).map (·.r) := by
              intro x hx
              rw [map_insL, r_cl]
              unfold insL
              rw [List.mem_append, List.mem_cons]
              rw [← List.take_append_drop (plc l ch 0) (l.map (·.r)), List.mem_append] at hx
              rcases hx with hx | hx
              · exact .inl hx
              · exact .inr (.inr hx)
            have hlk : l[k].r ∈ l.map (·.r) := List.mem_map_of_mem (List.getElem_mem hk)
            refine ⟨⟨?_, ?_, hup, ?_, ?_, ?_⟩, by rw [insL_length _ _ _ (by simpa using hpl)]; simp⟩
            · obtain ⟨x, r, hx, a, b, c⟩ := OkR.hd h
              have hpos : 0 < plc l ch 0 := by
                cases l with
                | nil => simp at hk
                | cons y q =>
                  obtain rfl : y.r = x := by simp at hx; exact hx.1
                  have h1 : numB ch = true := by simpa using hnum
                  simp [numB] at h1
                  have h2 := hne y (List.mem_cons_self ..)
                  rw [plc_yes (i := 0) (by simp) (by simp; omega)]
                  unfold plc
                  omega
              obtain ⟨p, hp0⟩ : ∃ p, plc l ch 0 = p + 1 := ⟨plc l ch 0 - 1, by omega⟩
              rw [map_insL, r_cl, hx, hp0]
              exact ⟨x, _, rfl, a, b, c⟩
            · rw [List.length_map, insL_length _ _ _ (by simpa using hpl), List.length_map]; omega
            · intro x hx
              rcases hmem x hx with rfl | hx
              · exact ⟨show numB ch = true by simpa using hnum, o.g, o.s, by simp [kidR], by simp [kidR], rfl, rfl, o.b, o.c, o.d, by simp [kidR, fitB], by simp [kidR]⟩
              · exact OkR.one h x hx
            · intro x hx hx1
              rcases hmem x hx with rfl | hx
              · exact ⟨l[k].r, hin _ hlk, hp, hne _ (List.getElem_mem hk), hst⟩
              · obtain ⟨q, hq, a, b, c⟩ := OkR.par h x hx hx1
                exact ⟨q, hin q hq, a, b, c⟩
            · intro x hx y hy e
              rcases hmem x hx with rfl | hx
              · rcases hmem y hy with rfl | hy
                · rfl
                · exact OkR.grp h l[k].r hlk y hy e
              · rcases hmem y hy with rfl | hy
                · exact OkR.grp h x hx l[k].r hlk e
                · exact OkR.grp h x hx y hy e
inductive Plays (l : List Px) (kd : Int) : Option (AV × List AO) → Prop
  | same : Plays l kd (some (pX l, []))
  | row (R : List Px) : OkX R → (R.length = l.length ∨ (R.length = l.length + 1 ∧ kd = 0) ∨ (R.length + 1 = l.length ∧ kd = 4)) → Plays l kd (some (.ref 0 0 0 R.length, [.row 30 13 0 (R.map encX)]))
structure Op4 where
  kd : Int
  a : Int
  b : Int
  c : Int
abbrev encO (o : Op4) : AV := .agg [.int .i64 o.kd, .int .i64 o.a, .int .i64 o.b, .int .i64 o.c]
theorem c38 {l : List Px} (h : OkX l) (o : Op4) (ob : o.b ≤ 9223372036854775807) : Plays l o.kd (callW tbl 38 [pX l, encO o]) := by
  have hb := OkX.bnd h
  have hu : Up l := OkR.up h
  have hN : ∀ x ∈ l, 1 ≤ x.r.pid ∧ x.r.pid ≤ 2147483647 := fun x hx => (OkX.one h hx).run
  obtain ⟨kd, a, b, c⟩ := o
  simp only at ob ⊢
  rw [call_run tbl (f := 38) (fn := f38) rfl _ rfl]
  by_cases k0 : kd = 0
  · subst k0
    have hc := c27x hb a b
    cases e : frk l (l.map clX) a b (kidP a b (atX l (ixG (liveX a) l 0))) with
    | mk r s =>
      rw [e] at hc
      cases r with
      | none => simp [f38, f38body, hc]; exact .same
      | some R =>
        obtain ⟨h1, h2⟩ := ok_frk h e
        simp [f38, f38body, hc]; exact .row R h1 (.inr (.inl ⟨h2, rfl⟩))
  by_cases k1 : kd = 1
  · subst k1
    have hc := c28x hb a b ob
    cases e : exi l (l.map clX) a b with
    | mk r s =>
      rw [e] at hc
      cases r with
      | none => simp [f38, f38body, hc]; exact .same
      | some R =>
        obtain ⟨h1, h2⟩ := ok_exi h e
        simp [f38, f38body, hc]; exact .row R h1 (.inl h2)
  by_cases k2 : kd = 2
  · subst k2
    have w1 := wrap64 (512 + b.tmod 512) (by have := Int.lt_tmod_of_pos b (show (0 : Int) < 512 by omega); omega) (by have := Int.tmod_lt_of_pos b (show (0 : Int) < 512 by omega); omega)
    have hc := c36x hb a 2 (512 + b.tmod 512) (by have := Int.tmod_lt_of_pos b (show (0 : Int) < 512 by omega); omega)
    cases e : chg l (l.map clX) a 2 (512 + b.tmod 512) with
    | mk r s =>
      rw [e] at hc
      cases r with
      | none => simp [f38, f38body, w1, hc]; exact .same
      | some R =>
        obtain ⟨h1, h2⟩ := ok_chg h e
        simp [f38, f38body, w1, hc]; exact .row R h1 (.inl h2)
  by_cases k3 : kd = 3
  · subst k3
    have hc := c36x hb a 1 768 (by omega)
    cases e : chg l (l.map clX) a 1 768 with
    | mk r s =>
      rw [e] at hc
      cases r with
      | none => simp [f38, f38body, hc]; exact .same
      | some R =>
        obtain ⟨h1, h2⟩ := ok_chg h e
        simp [f38, f38body, hc]; exact .row R h1 (.inl h2)
  by_cases k4 : kd = 4
  · subst k4
    have hc := c21x hb hu a b c
    cases e : waS l (l.map clX) a b c with
    | mk r x1 x2 x3 x4 =>
      rw [e] at hc
      cases r with
      | none => simp only [oc5] at hc; simp [f38, f38body, hc]; exact .same
      | some R =>
        obtain ⟨h1, h2⟩ := ok_wai h (n := a) (w := b) (f := c) (R := R) (by rw [e])
        simp only [oc5] at hc
        simp [f38, f38body, hc]; exact .row R h1 (h2.imp_right (fun q => .inr ⟨q, rfl⟩))
  by_cases k5 : kd = 5
  · subst k5
    have hc := c23x hb hN a b c
    cases e : grp l (l.map clX) a (w0 a b) c with
    | mk r s =>
      rw [e] at hc
      cases r with
      | none => simp [f38, f38body, hc]; exact .same
      | some R =>
        obtain ⟨h1, h2⟩ := ok_grp h e
        simp [f38, f38body, hc]; exact .row R h1 (.inl h2)
  · have hc := c25x hb a
    cases e : sesP l a with
    | mk r s =>
      rw [e] at hc
      cases r with
      | none => simp [f38, f38body, hc, k0, k1, k2, k3, k4, k5]; exact .same
      | some R =>
        obtain ⟨h1, h2⟩ := ok_ses h e
        simp [f38, f38body, hc, k0, k1, k2, k3, k4, k5]; exact .row R h1 (.inl h2)
/- the law's list -/
inductive IsT (Z : List AO) : AV → List Px → Prop
  | sl (l : List Px) : IsT Z (pX l) l
  | rw (id : Nat) (l : List Px) : Z[id]? = some (.row 30 13 0 (l.map encX)) → IsT Z (.ref id 0 0 l.length) l
  | fz (id : Nat) (l : List Px) : Z[id]? = some (.fz 13 0 (l.map encX)) → IsT Z (.ref id 0 0 l.length) l
theorem ops4 {c : AV} (h : HasTy (.sl true [.int .i64, .int .i64, .int .i64, .int .i64]) c) : ∃ l : List Op4, c = .sl 4 (l.map encO) ∧ l.length ≤ maxLen ∧ ∀ x ∈ l, x.b ≤ 9223372036854775807 :=
  HasTy.structs h (fun cs hl hj => by
    have h0 := Tys.of _ cs hl hj
    obtain ⟨_, _, rfl, k0, h0⟩ := h0.cons_inv
    obtain ⟨_, _, rfl, k1, h0⟩ := h0.cons_inv
    obtain ⟨_, _, rfl, k2, h0⟩ := h0.cons_inv
    obtain ⟨_, _, rfl, k3, h0⟩ := h0.cons_inv
    obtain rfl := h0.nil_inv
    obtain ⟨a, rfl, _⟩ := k0.int_inv
    obtain ⟨b, rfl, _⟩ := k1.int_inv
    obtain ⟨d, rfl, w⟩ := k2.int_inv
    obtain ⟨f, rfl, _⟩ := k3.int_inv
    exact ⟨⟨a, b, d, f⟩, rfl, (wf64 w).2⟩)
theorem sh_ref (k id g o n : Nat) : shift0 k (.ref id g o n) = .ref (k + id) g o n := rfl
theorem cv0_int (H : List AO) (k : IntKind) (n : Int) : conv0 H (.int k n) = .int k n := rfl
theorem rf0_int (k : IntKind) (n : Int) : refs0 (.int k n) = [] := rfl
theorem cv0_sl (H : List AO) (k : Nat) (n : List AV) : conv0 H (.sl k n) = .sl k n := rfl
theorem rf0_sl (k : Nat) (n : List AV) : refs0 (.sl k n) = [] := rfl
theorem t9 (sc : List Op4) (hs : sc.length ≤ 60) (hb : ∀ x ∈ sc, x.b ≤ 9223372036854775807) : ∀ (k j : Nat), j + k = sc.length → ∀ (l : List Px) (v : AV) (Z : List AO), IsT Z v l → OkX l →
    run tbl (.cl [.tmp 2]) [.blk 0, .seq (f9r14.seq .ret)] (.loop [3, 0, 4] f9b13) [(3, v), (0, .sl 4 (sc.map encO)), (4, .int .i64 j)] Z = some (.bool true, [])
  | 0, j, h => by
    intro l v Z hv ok
    rw [run_loopD _ _ f9b13_eq]
    simp [show ¬ j < sc.length by omega, c11]
  | k + 1, j, h => by
    intro l v Z hv ok
    have hj : j < sc.length := by omega
    have ih := t9 sc hs hb k (j + 1) (by omega)
    rw [Int.natCast_succ] at ih
    have hp := c38 ok sc[j] (hb _ (List.getElem_mem hj))
    have hL := OkX.len ok
    rw [run_loopD _ _ f9b13_eq]
    generalize hr : callW tbl 38 [pX l, encO sc[j]] = r at hp
    cases hv with
    | sl =>
      cases hp with
      | same =>
        have h14 := c14x ok
        have ih := fun Z => ih l (pX l) Z (.sl l) ok
        simp [hj, hr, h14, wrapS j (by omega), ih]
      | row R okR hlen =>
        have h14 := c14x okR
        have hRL := OkX.len okR
        rcases hlen with hlen | ⟨hlen, hkd⟩ | ⟨hlen, hkd⟩
        · have w : IntKind.i64.wrap ((R.length : Int) - l.length) = 0 := by rw [wrap64 _ (by omega) (by omega)]; omega
          simp [hj, hr, h14, w, wrapS j (by omega)]
          refine ih R _ _ (.rw _ R ?_) okR
          simp
        · have w : IntKind.i64.wrap ((R.length : Int) - l.length) = 1 := by rw [wrap64 _ (by omega) (by omega)]; omega
          simp [hj, hr, h14, w, eq_true hkd, wrapS j (by omega)]
          refine ih R _ _ (.rw _ R ?_) okR
          simp
        · have w : IntKind.i64.wrap ((R.length : Int) - l.length) = -1 := by rw [wrap64 _ (by omega) (by omega)]; omega
          simp [hj, hr, h14, w, eq_true hkd, wrapS j (by omega)]
          refine ih R _ _ (.rw _ R ?_) okR
          simp
    | rw id l hz =>
      have hz1 := fun X => getL (Z := X) hz
      have hid : id < Z.length := by
        rcases Nat.lt_or_ge id Z.length with h1 | h1
        · exact h1
        · rw [List.getElem?_eq_none h1] at hz; cases hz
      have hz2 : ∀ (X : List AO) (v : AO), (Z ++ X).set id v = Z.set id v ++ X := fun X v => by rw [List.set_append, if_pos hid]
      have hz3 : ∀ (X : List AO) (v x : AO), (Z.set id v ++ x :: X)[Z.length]? = some x := fun X v x => by
        rw [List.getElem?_append_right (by simp)]; simp
      have hz4 : ∀ (X : List AO) (v x y : AO), (Z.set id v ++ x :: y :: X)[Z.length + 1]? = some y := fun X v x y => by
        rw [List.getElem?_append_right (by simp)]; simp
      cases hp with
      | same =>
        have h14 := c14x ok
        have ih := fun Z => ih l (pX l) Z (.sl l) ok
        simp [hj, hz1, hz2, hz3, hz4, hr, h14, wrapS j (by omega), ih]
      | row R okR hlen =>
        have h14 := c14x okR
        have hRL := OkX.len okR
        rcases hlen with hlen | ⟨hlen, hkd⟩ | ⟨hlen, hkd⟩
        · have w : IntKind.i64.wrap ((R.length : Int) - l.length) = 0 := by rw [wrap64 _ (by omega) (by omega)]; omega
          simp [hj, hz1, hz2, hz3, hz4, hr, h14, w, wrapS j (by omega)]
          refine ih R _ _ (.rw _ R ?_) okR
          simp [hz2, hz3, hz4]
        · have w : IntKind.i64.wrap ((R.length : Int) - l.length) = 1 := by rw [wrap64 _ (by omega) (by omega)]; omega
          simp [hj, hz1, hz2, hz3, hz4, hr, h14, w, eq_true hkd, wrapS j (by omega)]
          refine ih R _ _ (.rw _ R ?_) okR
          simp [hz2, hz3, hz4]
        · have w : IntKind.i64.wrap ((R.length : Int) - l.length) = -1 := by rw [wrap64 _ (by omega) (by omega)]; omega
          simp [hj, hz1, hz2, hz3, hz4, hr, h14, w, eq_true hkd, wrapS j (by omega)]
          refine ih R _ _ (.rw _ R ?_) okR
          simp [hz2, hz3, hz4]
    | fz id l hz =>
      have hz1 := fun X => getL (Z := X) hz
      cases hp with
      | same =>
        have h14 := c14x ok
        have ih := fun Z => ih l (pX l) Z (.sl l) ok
        simp [hj, hz1, hr, h14, wrapS j (by omega), ih]
      | row R okR hlen =>
        have h14 := c14x okR
        have hRL := OkX.len okR
        rcases hlen with hlen | ⟨hlen, hkd⟩ | ⟨hlen, hkd⟩
        · have w : IntKind.i64.wrap ((R.length : Int) - l.length) = 0 := by rw [wrap64 _ (by omega) (by omega)]; omega
          simp [hj, hz1, hr, h14, w, wrapS j (by omega)]
          refine ih R _ _ (.rw _ R ?_) okR
          simp
        · have w : IntKind.i64.wrap ((R.length : Int) - l.length) = 1 := by rw [wrap64 _ (by omega) (by omega)]; omega
          simp [hj, hz1, hr, h14, w, eq_true hkd, wrapS j (by omega)]
          refine ih R _ _ (.rw _ R ?_) okR
          simp
        · have w : IntKind.i64.wrap ((R.length : Int) - l.length) = -1 := by rw [wrap64 _ (by omega) (by omega)]; omega
          simp [hj, hz1, hr, h14, w, eq_true hkd, wrapS j (by omega)]
          refine ih R _ _ (.rw _ R ?_) okR
          simp
abbrev newX : Px := ⟨⟨1, 0, 1, 1, 1, 0, false, 0, [], [], [], [], [47]⟩, .e0, .e0, .e0, .e0, .e0, .e0, .e0, .e0⟩
theorem ok_new : OkX [newX] := by
  refine ⟨⟨_, _, rfl, rfl, rfl, rfl⟩, by simp, by simp, ?_, ?_, ?_⟩
  · intro x hx
    simp at hx
    subst hx
    exact ⟨by decide, by decide, by decide, by decide, by decide, rfl, rfl, rfl, rfl, rfl, by decide, by decide⟩
  · intro x hx h1
    simp at hx
    subst hx
    exact absurd rfl h1
  · intro x hx y hy _
    simp at hx hy
    subst hx
    subst hy
    rfl
theorem c9 (sc : List Op4) (hb : ∀ x ∈ sc, x.b ≤ 9223372036854775807) : callW tbl 9 [.sl 4 (sc.map encO)] = some (.bool true, []) := by
  have h18 : callW tbl 18 [.str [47]] = some (.ref 0 0 0 1, [.row 30 13 0 [encX newX]]) := callW_of tbl (k := 200) (by kernel_rfl)
  rw [call_run tbl (f := 9) (fn := f9) rfl _ rfl]
  by_cases h60 : (60 : Int) < sc.length
  · simp [f9, f9body, h60, c11]
  · have ht := t9 sc (by omega) hb sc.length 0 (by omega) [newX] (.ref 0 0 0 1) [.row 30 13 0 [encX newX]] (show IsT [.row 30 13 0 [encX newX]] (.ref 0 0 0 1) [newX] from .rw 0 [newX] rfl) ok_new
    simp at ht
    simp [f9, f9body, h60, h18, ht]
end Go.Proofs.YtgppkhbidcgnlaaDoor
