/- Jobs: Status and Shell, the shape of a job, and Valid of the program. No condition. -/
import Derived.Test.YtpphfbfmoipoaaaDoorJg
namespace Go.Proofs.YtpphfbfmoipoaaaDoor
open Go.PI
set_option maxRecDepth 100000
set_option maxHeartbeats 8000000
set_option linter.unusedSimpArgs false
def sh (r : Int × Int) : Int := if r.1 = 0 then r.2 else if r.1 = 1 ∨ r.1 = 2 then 128 + r.2 else if r.1 = 3 then 0 else 255
theorem c68 (n : Int) (hn : n ≤ mx) : callW tbl 68 [.int .i64 n] = some (.int .i64 (sh (kdv n)), []) := by
  rw [call_run tbl (f := 68) (fn := f68) rfl _ rfl]
  have h := c62 n hn
  rcases kd_cases n with e | ⟨v, e, h1, h2, _⟩ | ⟨v, e, h1, h2, _⟩ | ⟨v, e, h1, h2, _⟩ | ⟨e, _⟩ <;> rw [e] at h ⊢
  · simp [f68, f68body, h, sh]
  · simp [f68, f68body, h, sh]
  · have w := wrap64 (128 + v) (by omega) (by omega)
    simp [f68, f68body, h, sh, w]
  · have w := wrap64 (128 + v) (by omega) (by omega)
    simp [f68, f68body, h, sh, w]
  · simp [f68, f68body, h, sh]
theorem c69 (n : Int) : callW tbl 69 [.int .i64 n] = some (.int .i64 (sh (kdv n)), []) := by
  rw [call_run tbl (f := 69) (fn := f69) rfl _ rfl]
  have h := c66 n
  rcases kd_cases n with e | ⟨v, e, h1, h2, _⟩ | ⟨v, e, h1, h2, _⟩ | ⟨v, e, h1, h2, _⟩ | ⟨e, _⟩ <;> rw [e] at h ⊢
  · simp [f69, f69body, h, sh]
  · simp [f69, f69body, h, sh]
  · have w := wrap64 (128 + v) (by omega) (by omega)
    simp [f69, f69body, h, sh, w]
  · have w := wrap64 (128 + v) (by omega) (by omega)
    simp [f69, f69body, h, sh, w]
  · simp [f69, f69body, h, sh]
/-- the exit status of a job -/
def stJ (x : Jb) : Int := match x.stats.getLast? with
  | none => 0
  | some n => if n = -1 then 0 else sh (kdv n)
theorem c27 (x : Jb) (hx : BJ x) (hw : WJ x) : callW tbl 27 [encJ x] = some (.int .i64 (stJ x), []) := by
  rw [call_run tbl (f := 27) (fn := f27) rfl _ rfl]
  by_cases h0 : x.stats = []
  · simp [f27, f27body, stJ, h0]
  · have hp : 0 < x.stats.length := List.length_pos_iff.2 h0
    have hg : x.stats.getLast? = some (x.stats[x.stats.length - 1]'(by omega)) := by rw [List.getLast?_eq_getElem?, List.getElem?_eq_getElem (by omega)]
    have h1 : x.stats.length ≤ 1000000 := hx.2
    have w1 : IntKind.i64.wrap ((x.stats.length : Int) - 1) = ((x.stats.length - 1 : Nat) : Int) := by rw [wrap64 _ (by omega) (by omega)]; omega
    have e1 := c68 (x.stats[x.stats.length - 1]'(by omega)) (hw _ (List.getElem_mem _))
    unfold stJ
    rw [hg]
    simp only
    generalize hn : x.stats[x.stats.length - 1]'(by omega) = n at e1 ⊢
    have hn' : (im x.stats)[x.stats.length - 1]? = some (.int .i64 n) := by simp [im, hp, ← hn]
    have hlt : x.stats.length - 1 < x.stats.length := by omega
    by_cases h2 : n = -1
    · subst h2
      simp [f27, f27body, h0, w1, hn', hn, hlt, hp]
    · simp [f27, f27body, h0, w1, hn', hn, hlt, hp, h2, e1]
theorem c28 (x : Jb) (hx : BJ x) : callW tbl 28 [encJ x] = some (.int .i64 (stJ x), []) := by
  rw [call_run tbl (f := 28) (fn := f28) rfl _ rfl]
  by_cases h0 : x.stats = []
  · simp [f28, f28body, stJ, h0]
  · have hp : 0 < x.stats.length := List.length_pos_iff.2 h0
    have hg : x.stats.getLast? = some (x.stats[x.stats.length - 1]'(by omega)) := by rw [List.getLast?_eq_getElem?, List.getElem?_eq_getElem (by omega)]
    have h1 : x.stats.length ≤ 1000000 := hx.2
    have w1 : IntKind.i64.wrap ((x.stats.length : Int) - 1) = ((x.stats.length - 1 : Nat) : Int) := by rw [wrap64 _ (by omega) (by omega)]; omega
    have e1 := c69 (x.stats[x.stats.length - 1]'(by omega))
    unfold stJ
    rw [hg]
    simp only
    generalize hn : x.stats[x.stats.length - 1]'(by omega) = n at e1 ⊢
    have hn' : (im x.stats)[x.stats.length - 1]? = some (.int .i64 n) := by simp [im, hp, ← hn]
    have hlt : x.stats.length - 1 < x.stats.length := by omega
    by_cases h2 : n = -1
    · subst h2
      simp [f28, f28body, h0, w1, hn', hn, hlt, hp]
    · simp [f28, f28body, h0, w1, hn', hn, hlt, hp, h2, e1]
/- the shape -/
def okB (n : Int) : Bool := decide (n = -1) || decide (kd n = 0) || decide (kd n = 1) || decide (kd n = 2)
def headB (j : Jb) : Bool := decide (1 ≤ j.num) && decide (j.num ≤ 32) && numB j.pgid && decide (¬ j.pids.length = 0) && decide (j.stats.length = j.pids.length)
def shape (j : Jb) : Int := if headB j = false then 1 else if 4096 < j.text.length then 3 else if j.pids.all numB = false then 1 else if j.stats.all okB = false then 1 else 0
theorem t70a (b : List AO) (l : List Int) (hl : l.length ≤ 1000000) (T : IC) (X : Int) (hX : run tbl (.cl [.tmp 2]) [] T [(46, .bool false), (43, il l), (1, .bptr 0 0), (44, .int .i64 l.length), (45, .int .i64 l.length)] b = some (.int .i64 X, [])) :
    ∀ (k i : Nat), i + k = l.length → run tbl (.cl [.tmp 2]) [.blk 0, .seq T] (.loop [44, 1, 43, 45] f70b11) [(44, .int .i64 l.length), (1, .bptr 0 0), (43, il l), (45, .int .i64 i)] b = some (.int .i64 (if (l.drop i).all numB = false then 1 else X), [])
  | 0, i, h => by
    obtain rfl : i = l.length := by omega
    rw [run_loopD _ _ f70b11_eq]
    simp [hX]
  | k + 1, i, h => by
    have hi : i < l.length := by omega
    have ih := t70a b l hl T X hX k (i + 1) (by omega)
    rw [Int.natCast_succ] at ih
    have ws := wrapS i (by omega)
    have e1 := c33 l[i]
    rw [run_loopD _ _ f70b11_eq, drop_step hi]
    cases hn : numB l[i]
    · rw [hn] at e1
      simp [hi, e1, hn, -List.getElem_cons_drop, -List.map_drop]
    · rw [hn] at e1
      simp [hi, e1, hn, ws, ih, -List.getElem_cons_drop, -List.map_drop]
theorem t70b (b : List AO) (l : List Int) (hl : l.length ≤ 1000000) (hw : ∀ n ∈ l, n ≤ mx) : ∀ (k i : Nat), i + k = l.length → run tbl (.cl [.tmp 2]) [.blk 2, .seq (f70r20.seq .ret)] (.loop [55, 54, 56] f70b19) [(55, .int .i64 l.length), (54, il l), (56, .int .i64 i)] b = some (.int .i64 (if (l.drop i).all okB = false then 1 else 0), [])
  | 0, i, h => by
    obtain rfl : i = l.length := by omega
    rw [run_loopD _ _ f70b19_eq]
    simp
  | k + 1, i, h => by
    have hi : i < l.length := by omega
    have ih := t70b b l hl hw k (i + 1) (by omega)
    rw [Int.natCast_succ] at ih
    have ws := wrapS i (by omega)
    have e1 := c62 l[i] (hw _ (List.getElem_mem hi))
    rw [run_loopD _ _ f70b19_eq, drop_step hi]
    have hok : okB l[i] = (decide (l[i] = -1) || decide (kd l[i] = 0) || decide (kd l[i] = 1) || decide (kd l[i] = 2)) := rfl
    simp only [List.all_cons, hok]
    rw [show (kdv l[i]).1 = kd l[i] from rfl] at e1
    generalize kd l[i] = q at e1 ⊢
    by_cases h1 : l[i] = -1
    · simp [h1] at e1
      simp [hi, h1, e1, ws, ih, -List.getElem_cons_drop, -List.map_drop]
    · by_cases k0 : q = 0
      · simp [hi, h1, k0, e1, ws, ih, -List.getElem_cons_drop, -List.map_drop]
      · by_cases k1 : q = 1
        · simp [hi, h1, k1, e1, ws, ih, -List.getElem_cons_drop, -List.map_drop]
        · by_cases k2 : q = 2
          · simp [hi, h1, k2, e1, ws, ih, -List.getElem_cons_drop, -List.map_drop]
          · simp [hi, h1, k0, k1, k2, e1, -List.getElem_cons_drop, -List.map_drop]
theorem c70 (j : Jb) (hb : BJ j) (hw : WJ j) : callW tbl 70 [encJ j] = some (.int .i64 (shape j), []) := by
  rw [call_run tbl (f := 70) (fn := f70) rfl _ rfl]
  have hB := t70b [.box 42 7 (encJ j)] j.stats hb.2 hw j.stats.length 0 (by omega)
  simp at hB
  have hT : run tbl (.cl [.tmp 2]) [] (.seq (.seq f70r12 (.block 2 (.loop [55, 54, 56] f70b19))) (.seq f70r20 .ret)) [(46, .bool false), (43, il j.pids), (1, .bptr 0 0), (44, .int .i64 j.pids.length), (45, .int .i64 j.pids.length)] [.box 42 7 (encJ j)] = some (.int .i64 (if j.stats.all okB = false then 1 else 0), []) := by
    simp [hB]
  have hA := t70a [.box 42 7 (encJ j)] j.pids hb.1 _ _ hT j.pids.length 0 (by omega)
  rw [List.drop_zero] at hA
  rw [show ((0 : Nat) : Int) = 0 from rfl] at hA
  have e1 := c33 j.pgid
  have L1 : j.pids.length ≤ 1000000 := hb.1
  unfold shape headB
  generalize (if j.stats.all okB = false then (1 : Int) else 0) = X at hA ⊢
  by_cases h1 : 1 ≤ j.num
  · by_cases h2 : j.num ≤ 32
    · cases h3 : numB j.pgid
      · rw [h3] at e1
        simp [f70, f70body, h1, h2, e1, show ¬ j.num < 1 by omega, show ¬ 32 < j.num by omega]
      · rw [h3] at e1
        by_cases h4 : j.pids.length = 0
        · have h4' : j.pids = [] := List.length_eq_zero_iff.1 h4
          simp [f70, f70body, h1, h2, e1, h4', show ¬ j.num < 1 by omega, show ¬ 32 < j.num by omega]
        · have h4' : ¬ j.pids = [] := fun e => h4 (by simp [e])
          by_cases h5 : j.stats.length = j.pids.length
          · by_cases h6 : 4096 < j.text.length
            · simp [f70, f70body, h1, h2, e1, h4, h4', h5, h6, show ¬ j.num < 1 by omega, show ¬ 32 < j.num by omega, show (4096 : Int) < j.text.length by omega]
            · simp [f70, f70body, h1, h2, e1, h4, h4', h5, h6, show ¬ j.num < 1 by omega, show ¬ 32 < j.num by omega, show ¬ (4096 : Int) < j.text.length by omega, hA]
          · have h5' : ¬ (j.stats.length : Int) = j.pids.length := by omega
            simp [f70, f70body, h1, h2, e1, h4, h4', h5, h5', show ¬ j.num < 1 by omega, show ¬ 32 < j.num by omega]
    · simp [f70, f70body, h1, h2, show ¬ j.num < 1 by omega, show 32 < j.num by omega]
  · simp [f70, f70body, h1, show j.num < 1 by omega]
end Go.Proofs.YtpphfbfmoipoaaaDoor
