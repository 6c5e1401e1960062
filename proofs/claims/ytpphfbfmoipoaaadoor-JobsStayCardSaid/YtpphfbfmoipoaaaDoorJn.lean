/- Jobs: Update of the reference. No condition. -/
import Derived.Test.YtpphfbfmoipoaaaDoorJl
import Derived.Test.YtpphfbfmoipoaaaDoorJv
namespace Go.Proofs.YtpphfbfmoipoaaaDoor
open Go.PI
set_option maxRecDepth 100000
set_option maxHeartbeats 8000000
set_option linter.unusedSimpArgs false
/-- the wait statuses with one changed -/
def rsU (p w : Int) : List Int → List Int → List Int
  | q :: r, s :: t => (if q = p then w else s) :: rsU p w r t
  | _, _ => []
theorem rsU_len (p w : Int) : ∀ (a b : List Int), b.length = a.length → (rsU p w a b).length = a.length
  | [], [], _ => rfl
  | _ :: a, _ :: b, h => by simp [rsU, rsU_len p w a b (by simpa using h)]
  | [], _ :: _, h => by simp at h
  | _ :: _, [], h => by simp at h
theorem rsU_get (p w : Int) : ∀ (a b : List Int) (i : Nat) (ha : i < a.length) (hb : i < b.length), (rsU p w a b)[i]? = some (if a[i] = p then w else b[i])
  | [], _, i, ha, _ => by simp at ha
  | _ :: _, [], i, _, hb => by simp at hb
  | x :: a, y :: b, 0, _, _ => by simp [rsU]
  | x :: a, y :: b, i + 1, ha, hb => by
    have := rsU_get p w a b i (by simpa using ha) (by simpa using hb)
    simpa [rsU] using this
def stU (p w : Int) (j : Jb) : Int := rst (rsU p w j.pids j.stats) true false
def chgU (p w : Int) (j : Jb) : Jb := if p ∈ j.pids then { j with stats := rsU p w j.pids j.stats, state := stU p w j, noted := if stU p w j = j.state then j.noted else false } else j
def mvU (p w : Int) (j : Jb) : Bool := decide (p ∈ j.pids) && !decide (stU p w j = j.state) && decide (stU p w j = 2)
def outF (p w : Int) : List Jb → List Jb
  | [] => []
  | j :: r => if mvU p w j = true then outF p w r else chgU p w j :: outF p w r
def mvF (p w : Int) : List Jb → List Jb
  | [] => []
  | j :: r => if mvU p w j = true then chgU p w j :: mvF p w r else mvF p w r
abbrev FU : Fin := .cl [.tmp 6, .tmp 7]
theorem t22i (l : List Jb) (p w : Int) (j : Jb) (hb : BJ j) (hls : j.stats.length = j.pids.length) (T : IC) (K : List Fr) (X : AV × List AO) (x10 x11 x12 : AV) (a b c : AO) (Z : List AO)
    (hX : run tbl FU K T [(56, .bool false), (14, .ref (Z.length + 4) j.pids.length 0 j.pids.length), (15, .int .i64 j.pids.length), (0, jl l), (10, x10), (12, x12), (11, x11), (1, .int .i64 p), (13, .bptr (Z.length + 3) 0), (2, .int .i64 w)] (a :: b :: c :: (Z ++ [.box 42 7 (encJ j), .row 3 1 j.pids.length (im (rsU p w j.pids j.stats))])) = some X) :
    ∀ (k i : Nat), i + k = j.pids.length → run tbl FU (.blk 2 :: .seq T :: K) (.loop [14, 15, 0, 10, 12, 11, 1, 13, 2] f22b20) [(14, .ref (Z.length + 4) i 0 i), (15, .int .i64 i), (0, jl l), (10, x10), (12, x12), (11, x11), (1, .int .i64 p), (13, .bptr (Z.length + 3) 0), (2, .int .i64 w)]
      (a :: b :: c :: (Z ++ [.box 42 7 (encJ j), .row 3 1 i (im ((rsU p w j.pids j.stats).take i))])) = some X
  | 0, i, h => by
    obtain rfl : i = j.pids.length := by omega
    have ht : (rsU p w j.pids j.stats).take j.pids.length = rsU p w j.pids j.stats := List.take_of_length_le (by rw [rsU_len p w _ _ hls]; omega)
    rw [run_loopD _ _ f22b20_eq, ht]
    simp [hX]
  | k + 1, i, h => by
    have hi : i < j.pids.length := by omega
    have hi2 : i < j.stats.length := by omega
    have L1 : j.pids.length ≤ 1000000 := hb.1
    have ih := t22i l p w j hb hls T K X x10 x11 x12 a b c Z hX k (i + 1) (by omega)
    have hr := rsU_get p w j.pids j.stats i hi hi2
    have hrl := rsU_len p w j.pids j.stats hls
    have hlt : i < (rsU p w j.pids j.stats).length := by omega
    rw [List.getElem?_eq_getElem hlt] at hr
    injection hr with hr
    rw [Int.natCast_succ, List.take_succ_eq_append_getElem hlt, hr] at ih
    have ws := wrapS i (by omega)
    have hA : (im ((rsU p w j.pids j.stats).take i)).length = i := by simp; omega
    rw [run_loopD _ _ f22b20_eq]
    simp only [im, List.map_append, List.map_cons, List.map_nil] at ih hA ⊢
    generalize ((rsU p w j.pids j.stats).take i).map (AV.int .i64) = A at ih hA ⊢
    by_cases h1 : j.pids[i] = p
    · simp [h1] at ih
      simp [hi, h1, ws, ih, hA, show i ≤ 1073741823 by omega]
    · simp [h1] at ih
      simp [hi, hi2, h1, ws, ih, hA, show i ≤ 1073741823 by omega]
abbrev T22 : IC := .seq f22r21 (.seq f22r22 (.seq f22r23 (.seq (.seq f22r24 (.cond (.t 88) f22r25 .skip)) (.seq f22r26 (.cond (.t 98) f22r27 f22r28)))))
abbrev K22 : List Fr := [.blk 1, .seq f22r29, .lp [10, 12, 0, 2, 1, 11] f22b30, .blk 0, .seq (f22r31.seq .ret)]
theorem t22 (l : List Jb) (hl : l.length ≤ 1000000) (hb : ∀ j ∈ l, BJ j) (hls : ∀ j ∈ l, j.stats.length = j.pids.length) (p w : Int) : ∀ (k i : Nat) (A B : List Jb) (Z : List AO), i + k = l.length → A.length + B.length = i →
    run tbl FU [.blk 0, .seq (f22r31.seq .ret)] (.loop [10, 12, 0, 2, 1, 11] f22b30) [(10, .ref 1 A.length 0 A.length), (12, .int .i64 i), (0, jl l), (2, .int .i64 w), (1, .int .i64 p), (11, .ref 2 B.length 0 B.length)] (.row 42 7 0 [] :: .row 42 7 A.length (A.map encJ) :: .row 42 7 B.length (B.map encJ) :: Z) =
      some (.tup [.ref 0 0 0 l.length, .bool true], [.row 42 7 0 ((A ++ outF p w (l.drop i) ++ (B ++ mvF p w (l.drop i))).map encJ)])
  | 0, i, A, B, Z, h, hAB => by
    obtain rfl : i = l.length := by omega
    rw [run_loopD _ _ f22b30_eq]
    simp [outF, mvF, hAB, show l.length ≤ 1073741824 by omega]
    exact List.take_of_length_le (by simp; omega)
  | k + 1, i, A, B, Z, h, hAB => by
    have hi : i < l.length := by omega
    have hbj := hb _ (List.getElem_mem hi)
    have hlj := hls _ (List.getElem_mem hi)
    have ws := wrapS i (by omega)
    have ih := fun (A' B' : List Jb) (Z' : List AO) (h' : A'.length + B'.length = i + 1) => t22 l hl hb hls p w k (i + 1) A' B' Z' (by omega) h'
    rw [Int.natCast_succ] at ih
    rw [drop_step hi]
    have hL : l[i]? = some l[i] := List.getElem?_eq_getElem hi
    generalize hj : l[i] = j at hbj hlj ⊢
    have hg : (l.map encJ)[i]? = some (encJ j) := by rw [List.getElem?_map, hL, hj]; rfl
    have e1 := c41 p j.pids hbj.1
    rw [run_loopD _ _ f22b30_eq]
    by_cases hp : p ∈ j.pids
    · have hrl := rsU_len p w j.pids j.stats hlj
      have e2 := c67 (rsU p w j.pids j.stats) (by rw [hrl]; exact hbj.1)
      have htk : (im (rsU p w j.pids j.stats)).take j.pids.length = im (rsU p w j.pids j.stats) := List.take_of_length_le (by simp; omega)
      have hc : chgU p w j = { j with stats := rsU p w j.pids j.stats, state := stU p w j, noted := if stU p w j = j.state then j.noted else false } := by unfold chgU; rw [if_pos hp]
      have hm : mvU p w j = (!decide (stU p w j = j.state) && decide (stU p w j = 2)) := by unfold mvU; simp [hp]
      simp only [outF, mvF]
      rw [show rst (rsU p w j.pids j.stats) true false = stU p w j from rfl] at e2
      by_cases h1 : stU p w j = j.state
      · have hm1 : mvU p w j = false := by rw [hm]; simp [h1]
        have i1 := fun Z' => ih (A ++ [chgU p w j]) B Z' (by simp; omega)
        have hX : run tbl FU K22 T22 [(56, .bool false), (14, .ref (Z.length + 4) j.pids.length 0 j.pids.length), (15, .int .i64 j.pids.length), (0, jl l), (10, .ref 1 A.length 0 A.length), (12, .int .i64 i), (11, .ref 2 B.length 0 B.length), (1, .int .i64 p), (13, .bptr (Z.length + 3) 0), (2, .int .i64 w)]
          (.row 42 7 0 [] :: .row 42 7 A.length (A.map encJ) :: .row 42 7 B.length (B.map encJ) :: (Z ++ [.box 42 7 (encJ j), .row 3 1 j.pids.length (im (rsU p w j.pids j.stats))])) = some (.tup [.ref 0 0 0 l.length, .bool true], [.row 42 7 0 ((A ++ chgU p w j :: outF p w (l.drop (i + 1)) ++ (B ++ mvF p w (l.drop (i + 1)))).map encJ)]) := by
          simp [hc, h1, encJ] at i1 ⊢
          simp only [im] at e2 htk
          simp [K22, e2, htk, h1, ws, i1, encJ, show A.length ≤ 1073741823 by omega, show B.length ≤ 1073741823 by omega]
        have h2 := t22i l p w j hbj hlj T22 K22 _ _ _ _ _ _ _ Z hX j.pids.length 0 (by omega)
        simp only [hm1, if_true, if_false, Bool.false_eq_true]
        simp [hp] at e1
        simp [K22] at h2
        simp [hi, hj, hg, e1, h2, -List.getElem_cons_drop, -List.map_drop]
      · by_cases h3 : stU p w j = 2
        · have hm1 : mvU p w j = true := by rw [hm]; simp [h1, h3]; rw [← h3]; exact h1
          have h1' : ¬ (2 : Int) = j.state := by rw [← h3]; exact h1
          have i1 := fun Z' => ih A (B ++ [chgU p w j]) Z' (by simp; omega)
          have hX : run tbl FU K22 T22 [(56, .bool false), (14, .ref (Z.length + 4) j.pids.length 0 j.pids.length), (15, .int .i64 j.pids.length), (0, jl l), (10, .ref 1 A.length 0 A.length), (12, .int .i64 i), (11, .ref 2 B.length 0 B.length), (1, .int .i64 p), (13, .bptr (Z.length + 3) 0), (2, .int .i64 w)]
            (.row 42 7 0 [] :: .row 42 7 A.length (A.map encJ) :: .row 42 7 B.length (B.map encJ) :: (Z ++ [.box 42 7 (encJ j), .row 3 1 j.pids.length (im (rsU p w j.pids j.stats))])) = some (.tup [.ref 0 0 0 l.length, .bool true], [.row 42 7 0 ((A ++ outF p w (l.drop (i + 1)) ++ (B ++ chgU p w j :: mvF p w (l.drop (i + 1)))).map encJ)]) := by
            simp [hc, h3, h1', encJ] at i1 ⊢
            simp only [im] at e2 htk
            simp [K22, e2, htk, h3, h1', ws, i1, encJ, show A.length ≤ 1073741823 by omega, show B.length ≤ 1073741823 by omega]
          have h2 := t22i l p w j hbj hlj T22 K22 _ _ _ _ _ _ _ Z hX j.pids.length 0 (by omega)
          simp only [hm1, if_true, if_false, Bool.false_eq_true]
          simp [hp] at e1
          simp [K22] at h2
          simp [hi, hj, hg, e1, h2, -List.getElem_cons_drop, -List.map_drop]
        · have hm1 : mvU p w j = false := by rw [hm]; simp [h1, h3]
          have i1 := fun Z' => ih (A ++ [chgU p w j]) B Z' (by simp; omega)
          have hX : run tbl FU K22 T22 [(56, .bool false), (14, .ref (Z.length + 4) j.pids.length 0 j.pids.length), (15, .int .i64 j.pids.length), (0, jl l), (10, .ref 1 A.length 0 A.length), (12, .int .i64 i), (11, .ref 2 B.length 0 B.length), (1, .int .i64 p), (13, .bptr (Z.length + 3) 0), (2, .int .i64 w)]
            (.row 42 7 0 [] :: .row 42 7 A.length (A.map encJ) :: .row 42 7 B.length (B.map encJ) :: (Z ++ [.box 42 7 (encJ j), .row 3 1 j.pids.length (im (rsU p w j.pids j.stats))])) = some (.tup [.ref 0 0 0 l.length, .bool true], [.row 42 7 0 ((A ++ chgU p w j :: outF p w (l.drop (i + 1)) ++ (B ++ mvF p w (l.drop (i + 1)))).map encJ)]) := by
            simp [hc, h1, h3, encJ] at i1 ⊢
            simp only [im] at e2 htk
            simp [K22, e2, htk, h1, h3, ws, i1, encJ, show A.length ≤ 1073741823 by omega, show B.length ≤ 1073741823 by omega]
          have h2 := t22i l p w j hbj hlj T22 K22 _ _ _ _ _ _ _ Z hX j.pids.length 0 (by omega)
          simp only [hm1, if_true, if_false, Bool.false_eq_true]
          simp [hp] at e1
          simp [K22] at h2
          simp [hi, hj, hg, e1, h2, -List.getElem_cons_drop, -List.map_drop]
    · have i1 := ih (A ++ [j]) B (Z ++ [.box 42 7 (encJ j)]) (by simp; omega)
      have hc : chgU p w j = j := by unfold chgU; rw [if_neg hp]
      have hm : mvU p w j = false := by unfold mvU; simp [hp]
      simp [hp] at e1
      simp at i1
      simp [hi, hj, hg, outF, mvF, hm, hc, e1, ws, i1, show A.length ≤ 1073741823 by omega, -List.getElem_cons_drop, -List.map_drop]
      skip
theorem outF_len (p w : Int) : ∀ l : List Jb, l.length = (outF p w l).length + (mvF p w l).length
  | [] => rfl
  | j :: r => by
    have := outF_len p w r
    simp only [outF, mvF, List.length_cons]
    split <;> simp only [List.length_cons] <;> omega
/-- the reference's answer -/
def outR (l : List Jb) (p w : Int) : Option (List Jb) :=
  if kd w < 0 ∨ memB p l = false then none else some (outF p (if kd w = 3 then -1 else w) l ++ mvF p (if kd w = 3 then -1 else w) l)
theorem c22 (l : List Jb) (hl : l.length ≤ 1000000) (hb : ∀ j ∈ l, BJ j) (hls : ∀ j ∈ l, j.stats.length = j.pids.length) (p w : Int) : callW tbl 22 [jl l, .int .i64 p, .int .i64 w] = outU l (outR l p w) := by
  rw [call_run tbl (f := 22) (fn := f22) rfl _ rfl]
  have e1 := c66 w
  have e2 := c42 p l hl hb
  unfold outR
  by_cases h1 : kd w < 0
  · rw [if_pos (.inl h1)]
    simp [f22, f22body, e1, h1, outU]
  · cases h2 : memB p l
    · rw [h2] at e2
      rw [if_pos (.inr rfl)]
      simp [f22, f22body, e1, e2, h1, outU]
    · rw [h2] at e2
      rw [if_neg (by simp [h1])]
      have ht := fun W => t22 l hl hb hls p W l.length 0 [] [] [] (by omega) rfl
      simp at ht
      by_cases h3 : kd w = 3
      · rw [if_pos h3]
        simp [f22, f22body, e1, e2, h1, h3, outU, ht]
        exact outF_len p _ l
      · rw [if_neg h3]
        simp [f22, f22body, e1, e2, h1, h3, outU, ht]
        exact outF_len p _ l
/- where the two agree -/
theorem rsU_no {p w : Int} : ∀ (a b : List Int), ¬ p ∈ a → b.length = a.length → rsU p w a b = b
  | [], [], _, _ => rfl
  | x :: a, y :: b, h, e => by
    have ih := rsU_no (p := p) (w := w) a b (fun h2 => h (by simp [h2])) (by simpa using e)
    have hx : ¬ x = p := fun h2 => h (by simp [h2])
    simp only [rsU, if_neg hx, ih]
  | [], _ :: _, _, e => by simp at e
  | _ :: _, [], _, e => by simp at e
theorem rsU_set {p w : Int} : ∀ (a b : List Int) (k n : Nat), a.Nodup → b.length = a.length → ixN p a k = some (k + n) → rsU p w a b = b.set n w
  | [], _, _, _, _, _, e => by simp [ixN] at e
  | _ :: _, [], _, _, _, e, _ => by simp at e
  | x :: a, y :: b, k, n, hn, hl, e => by
    have hn := List.nodup_cons.1 hn
    have hl' : b.length = a.length := by simpa using hl
    simp only [ixN] at e
    by_cases hx : p = x
    · rw [if_pos hx] at e
      injection e with e
      obtain rfl : n = 0 := by omega
      subst hx
      have := rsU_no (w := w) a b hn.1 hl'
      simp [rsU, this]
    · rw [if_neg hx] at e
      have hk := (ixN_lt e).1
      obtain ⟨m, rfl⟩ : ∃ m, n = m + 1 := ⟨n - 1, by omega⟩
      have ih := rsU_set (w := w) a b (k + 1) m hn.2 hl' (by rw [e]; congr 1; omega)
      have hx' : ¬ x = p := fun h => hx h.symm
      simp only [rsU, if_neg hx', ih, List.set_cons_succ]
theorem chg_no {p w : Int} {j : Jb} (h : ¬ p ∈ j.pids) : chgU p w j = j := by unfold chgU; rw [if_neg h]
theorem mv_no {p w : Int} {j : Jb} (h : ¬ p ∈ j.pids) : mvU p w j = false := by unfold mvU; simp [h]
theorem outF_no {p w : Int} : ∀ (L : List Jb), (∀ j ∈ L, ¬ p ∈ j.pids) → outF p w L = L ∧ mvF p w L = []
  | [], _ => ⟨rfl, rfl⟩
  | j :: r, h => by
    have ih := outF_no (p := p) (w := w) r (fun x hx => h x (by simp [hx]))
    have hj := h j (by simp)
    constructor
    · simp only [outF, mv_no hj, chg_no hj, Bool.false_eq_true, if_false, ih.1]
    · simp only [mvF, mv_no hj, Bool.false_eq_true, if_false, ih.2]
theorem outF_app {p w : Int} : ∀ (A B : List Jb), outF p w (A ++ B) = outF p w A ++ outF p w B
  | [], B => rfl
  | j :: r, B => by
    have ih := outF_app (p := p) (w := w) r B
    simp only [List.cons_append, outF, ih]
    split <;> rfl
theorem mvF_app {p w : Int} : ∀ (A B : List Jb), mvF p w (A ++ B) = mvF p w A ++ mvF p w B
  | [], B => rfl
  | j :: r, B => by
    have ih := mvF_app (p := p) (w := w) r B
    simp only [List.cons_append, mvF, ih]
    split <;> rfl
theorem ixN_mem {p : Int} : ∀ {a : List Int} {k n : Nat}, ixN p a k = some n → p ∈ a
  | [], _, _, e => by simp [ixN] at e
  | x :: a, k, n, e => by
    simp only [ixN] at e
    by_cases hx : p = x
    · simp [hx]
    · rw [if_neg hx] at e
      exact List.mem_cons_of_mem _ (ixN_mem e)
theorem kd3 (w : Int) : kd w = 3 ↔ w = 768 := by
  rcases kd_cases w with e | ⟨v, e, h1, h2, h3⟩ | ⟨v, e, h1, h2, h3⟩ | ⟨v, e, h1, h2, h3⟩ | ⟨e, h3⟩
  · constructor
    · intro h; rw [kd, e] at h; cases h
    · intro h; subst h; revert e; decide
  · simp only [kd, e]; omega
  · simp only [kd, e]; omega
  · simp only [kd, e]; omega
  · exact ⟨fun _ => h3, fun _ => by rw [kd, e]⟩
theorem okW (w : Int) (h : ¬ kd w < 0) : okB (if kd w = 3 then -1 else w) = true := by
  by_cases h3 : kd w = 3
  · rw [if_pos h3]; rfl
  · rw [if_neg h3]
    unfold okB
    rcases kd_cases w with e | ⟨v, e, _⟩ | ⟨v, e, _⟩ | ⟨v, e, _⟩ | ⟨e, _⟩ <;> simp [kd, e] at h h3 ⊢
theorem upd_ref {l : List Jb} (o : Ok l) (p w : Int) : updO l p w = outR l p w := by
  have hmn := memO_none (p := p) (l := l) (k := 0) (fun j hj => (o.good hj).ls)
  unfold updO outR
  cases hm : memO p l 0 with
  | none =>
    rw [if_pos (show kd w < 0 ∨ memB p l = false from .inr (hmn.1 hm))]
  | some r =>
    obtain ⟨i, a⟩ := r
    have hmb : ¬ memB p l = false := fun h => by rw [hmn.2 h] at hm; cases hm
    by_cases hk : kd w < 0
    · simp only [if_pos hk, if_pos (show kd w < 0 ∨ memB p l = false from .inl hk)]
    · rw [if_neg (show ¬ (kd w < 0 ∨ memB p l = false) from fun h => h.elim hk hmb)]
      simp only [if_neg hk]
      obtain ⟨L1, x, L2, hL, hi, hx, ha⟩ := memO_at hm
      simp only [Nat.zero_add] at hi
      subst hi
      have hget : l[L1.length]? = some x := by rw [hL]; simp
      have hset : ∀ y, l.set L1.length y = L1 ++ y :: L2 := by intro y; rw [hL]; simp
      have her : l.eraseIdx L1.length = L1 ++ L2 := by rw [hL, List.eraseIdx_append_of_length_le (Nat.le_refl _)]; simp
      have hg := o.good (j := x) (by rw [hL]; simp)
      have hok := okW w hk
      have hnd := o.pids
      rw [hL, List.flatMap_append, List.flatMap_cons] at hnd
      have hn1 := List.nodup_append.1 hnd
      have hn2 := List.nodup_append.1 hn1.2.1
      have hpx := ixN_mem hx
      have hA : ∀ j ∈ L1, ¬ p ∈ j.pids := fun j hj hp => hn1.2.2 p (List.mem_flatMap.2 ⟨j, hj, hp⟩) p (List.mem_append.2 (.inl hpx)) rfl
      have hB : ∀ j ∈ L2, ¬ p ∈ j.pids := fun j hj hp => hn2.2.2 p hpx p (List.mem_flatMap.2 ⟨j, hj, hp⟩) rfl
      simp only [kd3] at hok ⊢
      rw [hget]
      simp only [hset, her]
      generalize (if w = 768 then -1 else w) = W at hok ⊢
      have hr := rsU_set (w := W) x.pids x.stats 0 a hn2.1 hg.ls (by rw [hx, Nat.zero_add])
      have hall : (x.stats.set a W).all okB = true := by
        rw [List.all_eq_true]
        intro y hy
        rcases List.mem_or_eq_of_mem_set hy with h | h
        · exact hg.ss y h
        · rw [h]; exact hok
      have hst : stU p W x = stL (x.stats.set a W) false := by unfold stU; rw [hr]; exact rst_stL _ false hall
      have hc : chgU p W x = { x with stats := x.stats.set a W, state := stL (x.stats.set a W) false, noted := if stL (x.stats.set a W) false = x.state then x.noted else false } := by unfold chgU; rw [if_pos hpx, hr, hst]
      have hv : mvU p W x = (!decide (stL (x.stats.set a W) false = x.state) && decide (stL (x.stats.set a W) false = 2)) := by unfold mvU; simp [hpx, hst]
      rw [hL, outF_app, mvF_app, (outF_no L1 hA).1, (outF_no L1 hA).2]
      simp only [outF, mvF, (outF_no L2 hB).1, (outF_no L2 hB).2, List.nil_append]
      rw [hc, hv]
      generalize stL (x.stats.set a W) false = s
      by_cases h1 : s = x.state
      · simp [h1]
      · by_cases h2 : s = 2
        · subst h2
          simp [h1]
        · simp [h1, h2]
end Go.Proofs.YtpphfbfmoipoaaaDoor
