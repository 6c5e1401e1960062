/- Fork on both sides. No condition. -/
import Derived.Test.YtgppkhbidcgnlaaDoorLa
namespace Go.Proofs.YtgppkhbidcgnlaaDoor
open Go.PI
set_option maxRecDepth 100000
set_option maxHeartbeats 8000000
set_option linter.unusedSimpArgs false
theorem c65 (n : Int) : callW tbl 65 [.int .i64 n] = some (.bool (numB n), []) := by
  rw [call_run tbl (f := 65) (fn := f65) rfl _ rfl]
  unfold numB
  by_cases h1 : 1 ≤ n <;> by_cases h2 : n ≤ 2147483647 <;> simp [f65, f65body, h1, h2]
theorem cv66 {A : List AO} {n : Int} (h : A[0]? = some (.box 3 1 (.int .i64 n))) : Looks 66 [.bptr 0 0] (pidX n) A := by
  intro x Z
  refine ⟨[.box 30 13 (encX x)], ?_⟩
  rw [callV_run tbl (f := 66) (fn := f66) rfl _ _ rfl]
  by_cases h1 : x.r.pid = n
  · simp [f66, f66body, getL h, eq_true h1, pidX]
  · simp [f66, f66body, getL h, h1, pidX]
theorem c89 {a b c : AV} {p i q : List Int} (ha : IsL a p) (hb : IsL b i) (hc : IsL c q) (h1 : p.length ≤ 1000) (h2 : i.length ≤ 1000) (h3 : q.length ≤ 1000) :
    callW tbl 89 [.agg [a, b, c]] = some (.agg [.ref 0 0 0 p.length, .ref 1 0 0 i.length, .ref 2 0 0 q.length], [.row 3 1 0 (im p), .row 3 1 0 (im i), .row 3 1 0 (im q)]) := by
  rw [call_run tbl (f := 89) (fn := f89) rfl _ rfl]
  have e1 := c77 ha (by omega)
  have e2 := c77 hb (by omega)
  have e3 := c77 hc (by omega)
  have ia := ha.im; have ib := hb.im; have ic := hc.im
  simp [f89, f89body, e1, e2, e3, ia.ce, ib.ce, ic.ce, ia.ok, ib.ok, ic.ok, ia.cv1, ib.cv1, ic.cv1, ia.rf1, ib.rf1, ic.rf1, ia.cv, ib.cv, ic.cv, ia.rf, ib.rf, ic.rf]
theorem c67 {a b c : AV} {p i q : List Int} (ha : IsL a p) (hb : IsL b i) (hc : IsL c q) (h1 : p.length ≤ 1000) (h2 : i.length ≤ 1000) (h3 : q.length ≤ 1000) :
    callW tbl 67 [.agg [a, b, c]] = some (.agg [.e0, .ref 0 0 0 i.length, .ref 1 0 0 q.length], [.row 3 1 0 (im i), .row 3 1 0 (im q)]) := by
  rw [call_run tbl (f := 67) (fn := f67) rfl _ rfl]
  have e := c89 ha hb hc h1 h2 h3
  have ia := ha.im; have ib := hb.im; have ic := hc.im
  simp [f67, f67body, e, ia.ce, ib.ce, ic.ce, ia.ok, ib.ok, ic.ok, ia.cv1, ib.cv1, ic.cv1, ia.rf1, ib.rf1, ic.rf1, ia.cv, ib.cv, ic.cv, ia.rf, ib.rf, ic.rf]
theorem c73 {a b c : AV} (ia : Im a) (ib : Im b) (ic : Im c) : callW tbl 73 [.agg [a, b, c]] = some (.agg [.e0, b, c], []) := by
  rw [call_run tbl (f := 73) (fn := f73) rfl _ rfl]
  simp [f73, f73body, ia.ce, ib.ce, ic.ce, ia.ok, ib.ok, ic.ok, ia.cv1, ib.cv1, ic.cv1, ia.rf1, ib.rf1, ic.rf1, ia.cv, ib.cv, ic.cv, ia.rf, ib.rf, ic.rf, ia.ex, ib.ex, ic.ex]
/-- the child -/
def kidR (n ch : Int) (p : Pr) : Pr := ⟨ch, n, p.pgid, p.sid, 1, 0, false, 0, [], p.si, p.sc, p.fds, p.cwd⟩
def kidP (n ch : Int) (x : Px) : Px := ⟨kidR n ch x.r, .e0, il x.r.si, il x.r.sc, .sl 3 (fl x.r.fds), .e0, .il _, .il _, .sl _⟩
def kidQ (n ch : Int) (x : Px) : Px := ⟨kidR n ch x.r, .e0, x.b, x.c, x.d, .e0, x.hb, x.hc, x.hd⟩
abbrev blw (ch : Int) (x : Px) : Bool := decide (x.r.pid < ch)
/-- the place of the child -/
def plc (l : List Px) (ch : Int) (i : Nat) : Nat := i + ((l.drop i).takeWhile (blw ch)).length
theorem plc_end (l : List Px) (ch : Int) : plc l ch l.length = l.length := by unfold plc; rw [List.drop_length]; simp
theorem plc_yes {l : List Px} {ch : Int} {i : Nat} (h : i < l.length) (hp : l[i].r.pid < ch) : plc l ch i = plc l ch (i + 1) := by
  unfold plc; rw [drop_step h, List.takeWhile_cons_of_pos (by simpa using hp), List.length_cons]; omega
theorem plc_no {l : List Px} {ch : Int} {i : Nat} (h : i < l.length) (hp : ¬ l[i].r.pid < ch) : plc l ch i = i := by
  unfold plc; rw [drop_step h, List.takeWhile_cons_of_neg (by simpa using hp)]; rfl
theorem plc_le (l : List Px) (ch : Int) : plc l ch 0 ≤ l.length := by
  unfold plc; rw [List.drop_zero, Nat.zero_add]; exact (List.takeWhile_sublist _).length_le
def frk (l L : List Px) (n ch : Int) (kid : Px) : Option (List Px) × Int :=
  if ixG (liveX n) l 0 < 0 then (none, 21) else if numB ch = false then (none, 1) else if l.any (pidX ch) = true then (none, 9) else if 64 ≤ l.length then (none, 4) else (some (insL L (plc l ch 0) kid), 0)
theorem t27x {l : List Px} (hl : l.length ≤ 1000000) (ch : Int) (k9 : Nat) (H : List AO) (h0 : H[0]? = some (.box 3 1 (.int .i64 ch))) (R : Option (AV × List AO))
    (hR : ∀ e : Env, e.get 10 = .int .i64 (plc l ch 0) → e.get 5 = .bptr 0 0 → e.get 9 = .bptr k9 0 → e.get 0 = pX l → run tbl (.cl [.tmp 6, .tmp 7]) [] (f27r15.seq .ret) e H = R) :
    ∀ (m i : Nat), i + m = l.length → plc l ch i = plc l ch 0 → run tbl (.cl [.tmp 6, .tmp 7]) [.blk 1, .seq (f27r15.seq .ret)] (.loop [10, 5, 9, 0] f27b14) [(10, .int .i64 i), (5, .bptr 0 0), (9, .bptr k9 0), (0, pX l)] H = R
  | 0, i, h, hp => by
    obtain rfl : i = l.length := by omega
    rw [plc_end] at hp
    rw [run_loopD _ _ f27b14_eq]
    simp [-f27r15_run]
    rw [← run_seq]
    exact hR _ (by simp [← hp]) (by simp) (by simp) (by simp)
  | m + 1, i, h, hp => by
    have hi : i < l.length := by omega
    rw [run_loopD _ _ f27b14_eq]
    by_cases hc : l[i].r.pid < ch
    · have ih := t27x hl ch k9 H h0 R hR m (i + 1) (by omega) (by rw [← plc_yes hi hc]; exact hp)
      rw [Int.natCast_succ] at ih
      simp [-f27r15_run, hi, h0, hc, wrapS i (by omega), ih]
    · rw [plc_no hi hc] at hp
      simp [-f27r15_run, hi, h0, hc]
      rw [← run_seq]
      exact hR _ (by simp [← hp]) (by simp) (by simp) (by simp)
theorem rsv_mid (t : Nat) (R : List AO) (hR : rsvIdx t R = none) : ∀ (A : List AO), rsvIdx t (A ++ .rsv t :: R) = some A.length
  | [] => by simp [rsvIdx, hR]
  | a :: A => by
    have := rsv_mid t R hR A
    simp [rsvIdx, this]
theorem cv68 (A : List AO) (es : List AV) (x : AV) (i : Nat) (hi : i ≤ es.length) (hb : es.length ≤ 1000000) : ∃ Z', callV tbl 68 [.ref A.length 0 0 es.length, .int .i64 i, .sl 13 [x]] (A ++ [.row 30 13 0 es]) = some (.ref A.length 1 0 (es.length + 1), A ++ .row 30 13 1 (insL es i x) :: Z') := by
  have e : callV tbl 68 [.ref A.length 0 0 es.length, .int .i64 i, .sl 13 [x]] (A ++ [.row 30 13 0 es]) = insY (A ++ [.row 30 13 0 es]) [.ref A.length 0 0 es.length, .int .i64 i, .sl 13 [x]] := callV_ext tbl rfl _ _
  rw [e]
  by_cases h : i = es.length
  · subst h
    refine ⟨[.row 30 13 0 []], ?_⟩
    simp [insY, insX, insE, insL, hb]
  · refine ⟨[], ?_⟩
    simp [insY, insX, show i < es.length by omega, hb]
theorem map_insL {α β : Type} (f : α → β) (l : List α) (i : Nat) (x : α) : (insL l i x).map f = insL (l.map f) i (f x) := by simp [insL, List.map_take, List.map_drop]
theorem t27e {l : List Px} (hb : BndL l) (X : List AO) (n ch : Int) (y : Px) (i : Nat) (hi : i ≤ l.length) (e : Env) (e0 : e.get 0 = pX l) (e10 : e.get 10 = .int .i64 i) (e9 : e.get 9 = .bptr X.length 0) :
    run tbl (.cl [.tmp 6, .tmp 7]) [] (f27r15.seq .ret) e (X ++ [.box 30 13 (.agg [.int .i64 ch, .int .i64 n, .int .i64 y.r.pgid, .int .i64 y.r.sid, .int .i64 1, .int .i64 0, .bool false, .int .i64 0, .e0, .ref (X.length + 1) 0 0 y.r.si.length, .ref (X.length + 2) 0 0 y.r.sc.length, .ref (X.length + 3) 0 0 y.r.fds.length, .str y.r.cwd]), .row 3 1 0 (im y.r.si), .row 3 1 0 (im y.r.sc), .row 66 3 0 (fl y.r.fds)]) = some (.tup [.ref 0 0 0 (l.length + 1), .int .i64 0], [.row 30 13 0 ((insL (l.map clX) i (kidP n ch y)).map encX)]) := by
  have h54 := c54x hb
  have hlE : ((l.map clX).map encX).length = l.length := by simp
  obtain ⟨Z', h68⟩ := cv68 (X ++ [.box 30 13 (.agg [.int .i64 ch, .int .i64 n, .int .i64 y.r.pgid, .int .i64 y.r.sid, .int .i64 1, .int .i64 0, .bool false, .int .i64 0, .e0, .ref (X.length + 1) 0 0 y.r.si.length, .ref (X.length + 2) 0 0 y.r.sc.length, .ref (X.length + 3) 0 0 y.r.fds.length, .str y.r.cwd]), .fz 1 0 (im y.r.si), .fz 1 0 (im y.r.sc), .fz 3 0 (fl y.r.fds)]) ((l.map clX).map encX) (encX (kidP n ch y)) i (by omega) (by have := hb.1; omega)
  rw [map_insL]
  rw [hlE] at h68
  have hT : (insL ((l.map clX).map encX) i (encX (kidP n ch y))).take (l.length + 1) = insL ((l.map clX).map encX) i (encX (kidP n ch y)) := List.take_of_length_le (by rw [insL_length _ _ _ (by omega), hlE]; omega)
  have hTl : (insL ((l.map clX).map encX) i (encX (kidP n ch y))).length = l.length + 1 := by rw [insL_length _ _ _ (by omega), hlE]
  generalize insL ((l.map clX).map encX) i (encX (kidP n ch y)) = E at h68 hT hTl ⊢
  generalize (l.map clX).map encX = M at h54 h68
  simp [kidP, kidR] at h68
  simp [e0, e9, e10, h54, h68, hT, hTl]
theorem c27x {l : List Px} (hb : BndL l) (n ch : Int) : callW tbl 27 [pX l, .int .i64 n, .int .i64 ch] = oc2 l (frk l (l.map clX) n ch (kidP n ch (atX l (ixG (liveX n) l 0)))) := by
  rw [call_run tbl (f := 27) (fn := f27) rfl _ rfl]
  unfold frk
  have h47 := c47x hb.len n
  have h65 := c65 ch
  rcases ix_live (l := l) (n := n) with ⟨i1, _⟩ | ⟨k, hk, i1, _, _⟩
  · rw [i1] at h47 ⊢
    rw [if_pos (by omega)]
    simp [f27, f27body, h47]
  · rw [i1] at h47 ⊢
    rw [if_neg (by omega), atX_eq hk]
    have nk : ¬ (k : Int) < 0 := by omega
    cases hn : numB ch
    · rw [hn] at h65
      rw [if_pos rfl]
      simp [f27, f27body, h47, h65, nk]
    · rw [hn] at h65
      rw [if_neg (by simp)]
      obtain ⟨Z1, h63⟩ := cv63x (A := [.box 3 1 (.int .i64 ch)]) hb.len (cv66 (n := ch) rfl) (.sl l) [.row 30 13 0 []]
      cases ha : l.any (pidX ch)
      · rw [ha] at h63
        rw [if_neg (by simp)]
        simp at h63
        by_cases h64 : 64 ≤ l.length
        · rw [if_pos h64]
          simp [f27, f27body, h47, h65, nk, h63, show (64 : Int) ≤ l.length by omega]
        · rw [if_neg h64]
          have h64' : ¬ (64 : Int) ≤ l.length := by omega
          have hbk := hb.2 _ (List.getElem_mem hk)
          have h67 := c67 l[k].ha l[k].hb l[k].hc hbk.1 hbk.2.1 hbk.2.2.1
          have h40 := c40 l[k].hd (by omega)
          have hrs := rsv_mid 9 [.row 3 1 0 (im l[k].r.si), .row 3 1 0 (im l[k].r.sc), .row 66 3 0 (fl l[k].r.fds)] rfl Z1
          have ht := t27x hb.len ch (Z1.length + 2) (.box 3 1 (.int .i64 ch) :: .row 30 13 0 [] :: (Z1 ++ [.box 30 13 (.agg [.int .i64 ch, .int .i64 n, .int .i64 l[k].r.pgid, .int .i64 l[k].r.sid, .int .i64 1, .int .i64 0, .bool false, .int .i64 0, .e0, .ref (Z1.length + 3) 0 0 l[k].r.si.length, .ref (Z1.length + 4) 0 0 l[k].r.sc.length, .ref (Z1.length + 5) 0 0 l[k].r.fds.length, .str l[k].r.cwd]), .row 3 1 0 (im l[k].r.si), .row 3 1 0 (im l[k].r.sc), .row 66 3 0 (fl l[k].r.fds)])) rfl _ (fun e e10 e5 e9 e0 => by
            exact t27e hb (.box 3 1 (.int .i64 ch) :: .row 30 13 0 [] :: Z1) n ch l[k] (plc l ch 0) (plc_le l ch) e e0 e10 e9) l.length 0 (by omega) rfl
          have hln : (insL (l.map clX) (plc l ch 0) (kidP n ch l[k])).length = l.length + 1 := by rw [insL_length _ _ _ (by simpa using plc_le l ch)]; simp
          generalize insL (l.map clX) (plc l ch 0) (kidP n ch l[k]) = R at ht hln ⊢
          simp at ht
          simp [Nat.add_assoc, f27, f27body, h47, h65, nk, h63, h64', hk, h67, h40, hrs, ht, hln]
      · rw [ha] at h63
        rw [if_pos rfl]
        simp at h63
        simp [f27, f27body, h47, h65, nk, h63]
end Go.Proofs.YtgppkhbidcgnlaaDoor
