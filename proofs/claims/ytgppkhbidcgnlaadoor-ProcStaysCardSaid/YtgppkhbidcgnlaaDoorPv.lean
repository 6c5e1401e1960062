/- Processes: the reference's Valid and Small. No condition. -/
import Derived.Test.YtgppkhbidcgnlaaDoorSig
namespace Go.Proofs.YtgppkhbidcgnlaaDoor
open Go.PI
set_option maxRecDepth 100000
set_option maxHeartbeats 8000000
set_option linter.unusedSimpArgs false
@[simp] theorem get_mid {α : Type} (A : List α) (x : α) (Z : List α) : (A ++ x :: Z)[A.length]? = some x := by simp
@[simp] theorem set_mid {α : Type} (A : List α) (x y : α) (Z : List α) : (A ++ x :: Z).set A.length y = A ++ y :: Z := by
  induction A with
  | nil => rfl
  | cons a A ih => simp [ih]
@[simp] theorem get_app_add {α : Type} (A Z : List α) (k : Nat) : (A ++ Z)[A.length + k]? = Z[k]? := by
  rw [List.getElem?_append_right (by omega)]
  congr 1
  omega
/-- a descriptor -/
structure Fd3 where
  num : Int
  desc : Int
  ce : Bool
abbrev encF (f : Fd3) : AV := .agg [.int .i64 f.num, .int .i64 f.desc, .bool f.ce]
/-- a process -/
structure Pr where
  pid : Int
  ppid : Int
  pgid : Int
  sid : Int
  state : Int
  status : Int
  changed : Bool
  wake : Int
  sp : List Int
  si : List Int
  sc : List Int
  fds : List Fd3
  cwd : List UInt8
abbrev encP (r : Pr) : AV := .agg [.int .i64 r.pid, .int .i64 r.ppid, .int .i64 r.pgid, .int .i64 r.sid, .int .i64 r.state, .int .i64 r.status, .bool r.changed, .int .i64 r.wake, il r.sp, il r.si, il r.sc, .sl 3 (r.fds.map encF), .str r.cwd]
abbrev pl (l : List Pr) : AV := .sl 13 (l.map encP)
/- Small -/
def smallB (r : Pr) : Bool := decide (r.fds.length ≤ 40) && decide (r.cwd.length ≤ 200) && decide (r.sp.length ≤ 30) && decide (r.si.length ≤ 30) && decide (r.sc.length ≤ 30)
def smL (l : List Pr) : Nat → Nat → Bool
  | 0, _ => decide (l.length ≤ 80)
  | k + 1, i => if i < 80 then (match l[i]? with | some r => if smallB r = true then smL l k (i + 1) else false | none => false) else decide (l.length ≤ 80)
theorem t10 (l : List Pr) : ∀ (k i : Nat) (H : List AO), i + k = l.length → run tbl (.cl [.tmp 2]) [.blk 0, .seq (f10r8.seq .ret)] (.loop [0, 3] f10b7) [(0, pl l), (3, .int .i64 i)] H = some (.bool (smL l k i), [])
  | 0, i, H, h => by
    rw [run_loopD _ _ f10b7_eq]
    simp [show ¬ i < l.length by omega, smL]
    omega
  | k + 1, i, H, h => by
    have hi : i < l.length := by omega
    have ih := fun H => t10 l k (i + 1) H (by omega)
    rw [Int.natCast_succ] at ih
    rw [run_loopD _ _ f10b7_eq, smL]
    by_cases h80 : i < 80
    · rw [if_pos h80, List.getElem?_eq_getElem hi]
      simp only
      unfold smallB
      have h80' : (i : Int) < 80 := by omega
      by_cases h1 : l[i].fds.length ≤ 40
      · by_cases h2 : l[i].cwd.length ≤ 200
        · by_cases h3 : l[i].sp.length ≤ 30
          · by_cases h4 : l[i].si.length ≤ 30
            · by_cases h5 : l[i].sc.length ≤ 30
              · simp [hi, h80', h1, h2, h3, h4, h5, show ¬ (40 : Int) < l[i].fds.length by omega, show ¬ (200 : Int) < l[i].cwd.length by omega, show ¬ (30 : Int) < l[i].sp.length by omega, show ¬ (30 : Int) < l[i].si.length by omega, show ¬ (30 : Int) < l[i].sc.length by omega, wrapS i (by omega), ih]
              · simp [hi, h80', h1, h2, h3, h4, h5, show ¬ (40 : Int) < l[i].fds.length by omega, show ¬ (200 : Int) < l[i].cwd.length by omega, show ¬ (30 : Int) < l[i].sp.length by omega, show ¬ (30 : Int) < l[i].si.length by omega, show (30 : Int) < l[i].sc.length by omega]
            · simp [hi, h80', h1, h2, h3, h4, show ¬ (40 : Int) < l[i].fds.length by omega, show ¬ (200 : Int) < l[i].cwd.length by omega, show ¬ (30 : Int) < l[i].sp.length by omega, show (30 : Int) < l[i].si.length by omega]
          · simp [hi, h80', h1, h2, h3, show ¬ (40 : Int) < l[i].fds.length by omega, show ¬ (200 : Int) < l[i].cwd.length by omega, show (30 : Int) < l[i].sp.length by omega]
        · simp [hi, h80', h1, h2, show ¬ (40 : Int) < l[i].fds.length by omega, show (200 : Int) < l[i].cwd.length by omega]
      · simp [hi, h80', h1, show (40 : Int) < l[i].fds.length by omega]
    · rw [if_neg h80]
      simp [hi, show ¬ (i : Int) < 80 by omega]
      omega
theorem c10 (l : List Pr) : callW tbl 10 [pl l] = some (.bool (smL l l.length 0), []) := by
  rw [call_run tbl (f := 10) (fn := f10) rfl _ rfl]
  have h := t10 l l.length 0 [] (by omega)
  simp at h
  simp [f10, f10body, h]
/- one -/
def numB (n : Int) : Bool := decide (1 ≤ n) && decide (n ≤ 2147483647)
theorem c72 (n : Int) : callW tbl 72 [.int .i64 n] = some (.bool (numB n), []) := by
  rw [call_run tbl (f := 72) (fn := f72) rfl _ rfl]
  unfold numB
  by_cases h1 : 1 ≤ n <;> by_cases h2 : n ≤ 2147483647 <;> simp [f72, f72body, h1, h2]
def kdv (n : Int) : Int × Int := if n < 0 ∨ 768 < n then (-1, 0) else if (n / 256 = 1 ∨ n / 256 = 2) ∧ (n % 256 < 1 ∨ 20 < n % 256) then (-1, 0) else (n / 256, n % 256)
theorem c74 (n : Int) : callW tbl 74 [.int .i64 n] = some (.tup [.int .i64 (kdv n).1, .int .i64 (kdv n).2], []) := by
  rw [call_run tbl (f := 74) (fn := f74) rfl _ rfl]
  unfold kdv
  by_cases h0 : n < 0
  · simp [f74, f74body, h0]
  · by_cases h1 : 768 < n
    · simp [f74, f74body, h0, h1]
    · have e1 : n.tdiv 256 = n / 256 := Int.tdiv_eq_ediv_of_nonneg (by omega)
      have e2 : n.tmod 256 = n % 256 := Int.tmod_eq_emod_of_nonneg (by omega)
      have w1 : IntKind.i64.wrap (n / 256) = n / 256 := wrap64 _ (by omega) (by omega)
      rw [if_neg (by omega)]
      by_cases k1 : n / 256 = 1
      · by_cases v1 : n % 256 < 1
        · simp [f74, f74body, h0, h1, e1, e2, w1, k1, v1]
        · by_cases v2 : 20 < n % 256
          · simp [f74, f74body, h0, h1, e1, e2, w1, k1, v1, v2]
          · simp [f74, f74body, h0, h1, e1, e2, w1, k1, v1, v2]
      · by_cases k2 : n / 256 = 2
        · by_cases v1 : n % 256 < 1
          · simp [f74, f74body, h0, h1, e1, e2, w1, k2, v1]
          · by_cases v2 : 20 < n % 256
            · simp [f74, f74body, h0, h1, e1, e2, w1, k2, v1, v2]
            · simp [f74, f74body, h0, h1, e1, e2, w1, k2, v1, v2]
        · simp [f74, f74body, h0, h1, e1, e2, w1, k1, k2]
theorem c76 : callW tbl 76 [] = some (.int .i64 768, []) := callW_of tbl (k := 20) (by kernel_rfl)
def kd (n : Int) : Int := (kdv n).1
/-- does the status fit the state? -/
def fitB (r : Pr) : Bool := if r.state = 1 then (decide (r.status = 0) && !r.changed || decide (r.status = 768)) else if r.state = 2 then decide (kd r.status = 2) else decide (kd r.status = 0) || decide (kd r.status = 1)
theorem c83 (r : Pr) : callW tbl 83 [encP r] = some (.bool (fitB r), []) := by
  rw [call_run tbl (f := 83) (fn := f83) rfl _ rfl]
  have h := c74 r.status
  unfold fitB kd
  generalize (kdv r.status).1 = k at h ⊢
  generalize (kdv r.status).2 = v at h
  by_cases s1 : r.state = 1
  · by_cases t0 : r.status = 0
    · rw [t0] at h
      cases hc : r.changed <;> simp [f83, f83body, h, s1, t0, hc, c76]
    · by_cases t1 : r.status = 768
      · rw [t1] at h
        simp [f83, f83body, h, s1, t1, c76]
      · simp [f83, f83body, h, s1, t0, t1, c76]
  · by_cases s2 : r.state = 2
    · by_cases k2 : k = 2 <;> simp [f83, f83body, h, s2, k2]
    · by_cases k0 : k = 0
      · simp [f83, f83body, h, s1, s2, k0]
      · by_cases k1 : k = 1
        · simp [f83, f83body, h, s1, s2, k1]
        · simp [f83, f83body, h, s1, s2, k0, k1]
/-- has it nothing any more? -/
def bareB (r : Pr) : Bool := r.changed && decide (r.wake = 0) && decide ((r.fds.length : Int) = 0) && decide ((r.sp.length : Int) = 0) && decide ((r.si.length : Int) = 0) && decide ((r.sc.length : Int) = 0)
theorem c84 (r : Pr) : callW tbl 84 [encP r] = some (.bool (bareB r), []) := by
  rw [call_run tbl (f := 84) (fn := f84) rfl _ rfl]
  unfold bareB
  cases hc : r.changed
  · simp [f84, f84body, hc]
  · by_cases h1 : r.wake = 0
    · by_cases h2 : (r.fds.length : Int) = 0
      · by_cases h3 : (r.sp.length : Int) = 0
        · by_cases h4 : (r.si.length : Int) = 0
          · by_cases h5 : (r.sc.length : Int) = 0 <;> simp [-List.length_eq_zero_iff, -Int.natCast_eq_zero, f84, f84body, hc, h1, h2, h3, h4, h5]
          · simp [-List.length_eq_zero_iff, -Int.natCast_eq_zero, f84, f84body, hc, h1, h2, h3, h4]
        · simp [-List.length_eq_zero_iff, -Int.natCast_eq_zero, f84, f84body, hc, h1, h2, h3]
      · simp [-List.length_eq_zero_iff, -Int.natCast_eq_zero, f84, f84body, hc, h1, h2]
    · simp [f84, f84body, hc, h1]
/-- the error of a process by itself; 'prev': the number of the one before it -/
def fieldB (r : Pr) : Bool := numB r.pid && numB r.pgid && numB r.sid && decide (1 ≤ r.state) && decide (r.state ≤ 3) && decide (0 ≤ r.wake) && decide (r.wake ≤ 1073741824)
def oneT (r : Pr) : Int := if fitB r = false ∨ (r.state = 3 ∧ bareB r = false) then 1 else vd r.sp r.si r.sc
def oneR (r : Pr) (prev : Option Int) : Int := if fieldB r = false then 1 else if (match prev with | some q => decide (r.pid ≤ q) | none => false) = true then 25 else oneT r
abbrev tail43b : IC := (f43r6.seq (.cond (.t 71) (f43r7.seq .ret) .skip)).seq (f43r8.seq .ret)
abbrev tail43 : IC := (f43r4.seq (.cond (.t 58) (f43r5.seq .ret) .skip)).seq tail43b
theorem t43b (r : Pr) (h1 : r.sp.length ≤ 1000) (h2 : r.si.length ≤ 1000) (h3 : r.sc.length ≤ 1000) (e : Env) (e5 : e.get 5 = .bptr 0 0) : run tbl (.cl [.tmp 4]) [] tail43b e [.box 30 13 (encP r)] = some (.int .i64 (oneT r), []) := by
  have hf := c83 r
  have hb := c84 r
  have hv := c85 r.sp r.si r.sc h1 h2 h3
  unfold oneT
  cases hfb : fitB r
  · rw [hfb] at hf
    rw [if_pos (.inl rfl)]
    simp [e5, hf]
  · rw [hfb] at hf
    by_cases s3 : r.state = 3
    · cases hbb : bareB r
      · rw [hbb] at hb
        rw [if_pos (.inr ⟨s3, rfl⟩)]
        simp [e5, hf, eq_true s3, hb]
      · rw [hbb] at hb
        rw [if_neg (by simp)]
        simp [e5, hf, eq_true s3, hb, hv]
    · rw [if_neg (by simp [s3])]
      simp [e5, hf, s3, hv]
theorem t43 (l : List Pr) (i : Nat) (hi : i < l.length) (hb : l.length ≤ 1000000) (h1 : l[i].sp.length ≤ 1000) (h2 : l[i].si.length ≤ 1000) (h3 : l[i].sc.length ≤ 1000) (e : Env) (e5 : e.get 5 = .bptr 0 0) (e0 : e.get 0 = pl l) (e1 : e.get 1 = .int .i64 i) :
    run tbl (.cl [.tmp 4]) [] tail43 e [.box 30 13 (encP l[i])] = some (.int .i64 (if (match (if i = 0 then none else (l[i - 1]?).map (·.pid)) with | some q => decide (l[i].pid ≤ q) | none => false) = true then 25 else oneT l[i]), []) := by
  have ht := t43b l[i] h1 h2 h3
  generalize oneT l[i] = V at ht ⊢
  rcases i with _ | m
  · simp [-f43r6_run, e5, e0, e1]
    rw [← run_seq, ← run_seq]
    exact ht _ (by simp)
  · have hm : m < l.length := by omega
    have w1 := wrapN m (by omega)
    simp only [show ¬ m + 1 = 0 by omega, if_false, show m + 1 - 1 = m by omega, List.getElem?_eq_getElem hm, Option.map_some]
    by_cases hle : l[m + 1].pid ≤ l[m].pid
    · simp [-f43r6_run, e5, e0, e1, show (0 : Int) < (m : Int) + 1 by omega, hm, w1, hle]
    · simp [-f43r6_run, e5, e0, e1, show (0 : Int) < (m : Int) + 1 by omega, hm, w1, hle]
      rw [← run_seq, ← run_seq]
      exact ht _ (by simp)
theorem c43 (l : List Pr) (i : Nat) (hi : i < l.length) (hb : l.length ≤ 1000000) (h1 : l[i].sp.length ≤ 1000) (h2 : l[i].si.length ≤ 1000) (h3 : l[i].sc.length ≤ 1000) :
    callW tbl 43 [pl l, .int .i64 i] = some (.int .i64 (oneR l[i] (if i = 0 then none else (l[i - 1]?).map (·.pid))), []) := by
  rw [call_run tbl (f := 43) (fn := f43) rfl _ rfl]
  have ht := t43 l i hi hb h1 h2 h3
  unfold oneR fieldB
  generalize (if (match (if i = 0 then none else (l[i - 1]?).map (·.pid)) with | some q => decide (l[i].pid ≤ q) | none => false) = true then 25 else oneT l[i]) = V at ht ⊢
  have n1 := c72 l[i].pid
  have n2 := c72 l[i].pgid
  have n3 := c72 l[i].sid
  cases b1 : numB l[i].pid
  · rw [b1] at n1
    simp [-f43r4_run, f43, f43body, hi, n1]
  rw [b1] at n1
  cases b2 : numB l[i].pgid
  · rw [b2] at n2
    simp [-f43r4_run, f43, f43body, hi, n1, n2]
  rw [b2] at n2
  cases b3 : numB l[i].sid
  · rw [b3] at n3
    simp [-f43r4_run, f43, f43body, hi, n1, n2, n3]
  rw [b3] at n3
  by_cases b4 : 1 ≤ l[i].state
  · by_cases b5 : l[i].state ≤ 3
    · by_cases b6 : 0 ≤ l[i].wake
      · by_cases b7 : l[i].wake ≤ 1073741824
        · simp [-f43r4_run, f43, f43body, hi, n1, n2, n3, b4, b5, b6, b7, show ¬ l[i].state < 1 by omega, show ¬ 3 < l[i].state by omega, show ¬ l[i].wake < 0 by omega, show ¬ 1073741824 < l[i].wake by omega]
          rw [← run_seq, ← run_seq]
          exact ht _ (by simp) (by simp) (by simp)
        · simp [-f43r4_run, f43, f43body, hi, n1, n2, n3, b4, b5, b6, b7, show ¬ l[i].state < 1 by omega, show ¬ 3 < l[i].state by omega, show ¬ l[i].wake < 0 by omega, show 1073741824 < l[i].wake by omega]
      · simp [-f43r4_run, f43, f43body, hi, n1, n2, n3, b4, b5, b6, show ¬ l[i].state < 1 by omega, show ¬ 3 < l[i].state by omega, show l[i].wake < 0 by omega]
    · simp [-f43r4_run, f43, f43body, hi, n1, n2, n3, b4, b5, show ¬ l[i].state < 1 by omega, show 3 < l[i].state by omega]
  · simp [-f43r4_run, f43, f43body, hi, n1, n2, n3, b4, show l[i].state < 1 by omega]
/- related -/
def dP : Pr := ⟨0, 0, 0, 0, 0, 0, false, 0, [], [], [], [], []⟩
def atP (l : List Pr) (j : Nat) : Pr := (l[j]?).getD dP
theorem atP_eq {l : List Pr} {j : Nat} (h : j < l.length) : atP l j = l[j] := by unfold atP; rw [List.getElem?_eq_getElem h]; rfl
def parF (l : List Pr) (i : Nat) (q : Int) : Nat → Nat → Bool → Bool
  | 0, _, b => b
  | k + 1, j, b => parF l i q k (j + 1) (if j ≠ i ∧ (atP l j).pid = q ∧ (atP l j).state ≠ 3 then true else b)
def grpF (l : List Pr) (g s : Int) : Nat → Nat → Bool
  | 0, _ => false
  | k + 1, j => if (atP l j).pgid = g ∧ (atP l j).sid ≠ s then true else grpF l g s k (j + 1)
theorem t44b (l : List Pr) (hl : l.length ≤ 1000000) (r : Pr) : ∀ (k j : Nat), j + k = l.length → run tbl (.cl [.tmp 4]) [.blk 2, .seq (f44r17.seq .ret)] (.loop [0, 5, 8] f44b16) [(0, pl l), (5, .bptr 0 0), (8, .int .i64 j)] [.box 30 13 (encP r)] = some (.int .i64 (if grpF l r.pgid r.sid k j = true then 23 else 0), [])
  | 0, j, h => by
    rw [run_loopD _ _ f44b16_eq]
    simp [show ¬ j < l.length by omega, grpF]
  | k + 1, j, h => by
    have hj : j < l.length := by omega
    have ih := t44b l hl r k (j + 1) (by omega)
    rw [Int.natCast_succ] at ih
    rw [run_loopD _ _ f44b16_eq]
    by_cases h1 : l[j].pgid = r.pgid
    · by_cases h2 : l[j].sid = r.sid
      · rw [show grpF l r.pgid r.sid (k + 1) j = grpF l r.pgid r.sid k (j + 1) by rw [grpF, atP_eq hj, if_neg (fun x => x.2 h2)]]
        generalize grpF l r.pgid r.sid k (j + 1) = B at ih ⊢
        simp [hj, eq_true h1, eq_true h2, wrapS j (by omega), ih]
      · rw [show grpF l r.pgid r.sid (k + 1) j = true by rw [grpF, atP_eq hj, if_pos ⟨h1, h2⟩]]
        simp [hj, eq_true h1, h2]
    · rw [show grpF l r.pgid r.sid (k + 1) j = grpF l r.pgid r.sid k (j + 1) by rw [grpF, atP_eq hj, if_neg (fun x => h1 x.1)]]
      generalize grpF l r.pgid r.sid k (j + 1) = B at ih ⊢
      simp [hj, h1, wrapS j (by omega), ih]
abbrev tail44 : IC := (f44r9.seq (.cond (.t 43) (f44r10.seq .ret) .skip)).seq ((f44r11.seq (.block 2 (.loop [0, 5, 8] f44b16))).seq (f44r17.seq .ret))
def relR (l : List Pr) (i : Nat) (r : Pr) : Int := if parF l i r.ppid l.length 0 (decide (i = 0)) = false then 21 else if grpF l r.pgid r.sid l.length 0 = true then 23 else 0
theorem t44a (l : List Pr) (hl : l.length ≤ 1000000) (i : Nat) (r : Pr) : ∀ (k j : Nat) (b : Bool), j + k = l.length → run tbl (.cl [.tmp 4]) [.blk 0, .seq tail44] (.loop [6, 7, 1, 5, 0] f44b8) [(6, .bool b), (7, .int .i64 j), (1, .int .i64 i), (5, .bptr 0 0), (0, pl l)] [.box 30 13 (encP r)] = some (.int .i64 (if parF l i r.ppid k j b = false then 21 else if grpF l r.pgid r.sid l.length 0 = true then 23 else 0), [])
  | 0, j, b, h => by
    rw [run_loopD _ _ f44b8_eq]
    have ht := t44b l hl r l.length 0 (by omega)
    generalize grpF l r.pgid r.sid l.length 0 = B at ht ⊢
    simp at ht
    cases b <;> simp [show ¬ j < l.length by omega, parF, ht]
  | k + 1, j, b, h => by
    have hj : j < l.length := by omega
    have ih := fun b => t44a l hl i r k (j + 1) b (by omega)
    rw [Int.natCast_succ] at ih
    rw [run_loopD _ _ f44b8_eq]
    generalize grpF l r.pgid r.sid l.length 0 = B at ih ⊢
    by_cases h0 : j = i
    · rw [show parF l i r.ppid (k + 1) j b = parF l i r.ppid k (j + 1) b by rw [parF, atP_eq hj, if_neg (fun x => x.1 h0)]]
      subst h0
      simp [hj, wrapS j (by omega), ih]
    · have h0' : ¬ (j : Int) = i := by omega
      by_cases h1 : l[j].pid = r.ppid
      · by_cases h2 : l[j].state = 3
        · rw [show parF l i r.ppid (k + 1) j b = parF l i r.ppid k (j + 1) b by rw [parF, atP_eq hj, if_neg (fun x => x.2.2 h2)]]
          simp [hj, h0', eq_true h1, eq_true h2, wrapS j (by omega), ih]
        · rw [show parF l i r.ppid (k + 1) j b = parF l i r.ppid k (j + 1) true by rw [parF, atP_eq hj, if_pos ⟨h0, h1, h2⟩]]
          simp [hj, h0', eq_true h1, h2, wrapS j (by omega), ih]
      · rw [show parF l i r.ppid (k + 1) j b = parF l i r.ppid k (j + 1) b by rw [parF, atP_eq hj, if_neg (fun x => h1 x.2.1)]]
        simp [hj, h0', h1, wrapS j (by omega), ih]
theorem c44 (l : List Pr) (i : Nat) (hi : i < l.length) (hl : l.length ≤ 1000000) : callW tbl 44 [pl l, .int .i64 i] = some (.int .i64 (relR l i l[i]), []) := by
  rw [call_run tbl (f := 44) (fn := f44) rfl _ rfl]
  unfold relR
  have ht := t44a l hl i l[i] l.length 0 (decide (i = 0)) (by omega)
  generalize parF l i l[i].ppid l.length 0 (decide (i = 0)) = B at ht ⊢
  generalize grpF l l[i].pgid l[i].sid l.length 0 = B2 at ht ⊢
  by_cases h0 : i = 0
  · subst h0
    simp at ht
    simp [f44, f44body, hi, ht]
  · simp [h0] at ht
    have e : ((i : Int) == 0) = false := by simp; omega
    simp [f44, f44body, hi, e, ht]
/- Valid -/
def prevP (l : List Pr) (i : Nat) : Option Int := if i = 0 then none else (l[i - 1]?).map (·.pid)
def vL (l : List Pr) : Nat → Nat → Int
  | 0, _ => 0
  | k + 1, i => if oneR (atP l i) (prevP l i) ≠ 0 then oneR (atP l i) (prevP l i) else if relR l i (atP l i) ≠ 0 then relR l i (atP l i) else vL l k (i + 1)
abbrev Bnd (l : List Pr) : Prop := ∀ r ∈ l, r.sp.length ≤ 1000 ∧ r.si.length ≤ 1000 ∧ r.sc.length ≤ 1000
theorem t15 (l : List Pr) (hl : l.length ≤ 1000000) (hb : Bnd l) : ∀ (k i : Nat), i + k = l.length → run tbl (.cl [.tmp 2]) [.blk 0, .seq (f15r15.seq .ret)] (.loop [3, 0] f15b14) [(3, .int .i64 i), (0, pl l)] [] = some (.int .i64 (vL l k i), [])
  | 0, i, h => by
    rw [run_loopD _ _ f15b14_eq]
    simp [show ¬ i < l.length by omega, vL]
  | k + 1, i, h => by
    have hi : i < l.length := by omega
    have ih := t15 l hl hb k (i + 1) (by omega)
    rw [Int.natCast_succ] at ih
    obtain ⟨b1, b2, b3⟩ := hb l[i] (List.getElem_mem hi)
    have h43 := c43 l i hi hl b1 b2 b3
    have h44 := c44 l i hi hl
    rw [run_loopD _ _ f15b14_eq, vL, atP_eq hi]
    unfold prevP
    generalize oneR l[i] (if i = 0 then none else (l[i - 1]?).map (·.pid)) = V1 at h43 ⊢
    generalize relR l i l[i] = V2 at h44 ⊢
    by_cases n1 : V1 = 0
    · rw [if_neg (by simp [n1])]
      by_cases n2 : V2 = 0
      · rw [if_neg (by simp [n2])]
        rw [n1] at h43
        rw [n2] at h44
        simp [hi, h43, h44, wrapS i (by omega), ih]
      · rw [if_pos n2]
        rw [n1] at h43
        simp [hi, h43, h44, n2]
    · rw [if_pos n1]
      simp [hi, h43, n1]
def vR (l : List Pr) : Int := if 64 < l.length then 4 else if l = [] ∨ (atP l 0).pid ≠ 1 ∨ (atP l 0).ppid ≠ 0 ∨ (atP l 0).state ≠ 1 then 21 else vL l l.length 0
theorem c15 (l : List Pr) (hl : l.length ≤ 1000000) (hb : Bnd l) : callW tbl 15 [pl l] = some (.int .i64 (vR l), []) := by
  rw [call_run tbl (f := 15) (fn := f15) rfl _ rfl]
  have ht := t15 l hl hb l.length 0 (by omega)
  unfold vR
  generalize vL l l.length 0 = V at ht ⊢
  simp at ht
  by_cases h0 : 64 < l.length
  · rw [if_pos h0]
    simp [f15, f15body, show (64 : Int) < l.length by omega]
  · rw [if_neg h0]
    have h0' : ¬ (64 : Int) < l.length := by omega
    cases l with
    | nil => simp [f15, f15body]
    | cons r l =>
      rw [show atP (r :: l) 0 = r from rfl]
      replace h0' : ¬ (64 : Int) < (l.length : Int) + 1 := by simp at h0; omega
      by_cases h1 : r.pid = 1
      · by_cases h2 : r.ppid = 0
        · by_cases h3 : r.state = 1
          · rw [if_neg (by simp [h1, h2, h3])]
            simp [f15, f15body, h0', eq_true h1, eq_true h2, eq_true h3, show ¬ ((l.length : Int) + 1 = 0) by omega, ht]
          · rw [if_pos (by simp [h3])]
            simp [f15, f15body, h0', eq_true h1, eq_true h2, h3, show ¬ ((l.length : Int) + 1 = 0) by omega]
        · rw [if_pos (by simp [h2])]
          simp [f15, f15body, h0', eq_true h1, h2, show ¬ ((l.length : Int) + 1 = 0) by omega]
      · rw [if_pos (by simp [h1])]
        simp [f15, f15body, h0', h1, show ¬ ((l.length : Int) + 1 = 0) by omega]
theorem c20 (l : List Pr) (hb : smL l l.length 0 = true → l.length ≤ 1000000 ∧ Bnd l) : callW tbl 20 [pl l] = some (.bool (smL l l.length 0 && decide (vR l = 0)), []) := by
  rw [call_run tbl (f := 20) (fn := f20) rfl _ rfl]
  have h10 := c10 l
  cases hs : smL l l.length 0
  · rw [hs] at h10
    simp [f20, f20body, h10]
  · rw [hs] at h10
    have h15 := c15 l (hb hs).1 (hb hs).2
    by_cases hv : vR l = 0
    · rw [hv] at h15
      simp [f20, f20body, h10, h15, hv]
    · simp [f20, f20body, h10, h15, hv]
end Go.Proofs.YtgppkhbidcgnlaaDoor
