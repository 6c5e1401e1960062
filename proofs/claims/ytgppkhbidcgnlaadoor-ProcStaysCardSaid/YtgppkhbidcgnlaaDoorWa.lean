/- Wait on both sides. No condition. -/
import Derived.Test.YtgppkhbidcgnlaaDoorPl
namespace Go.Proofs.YtgppkhbidcgnlaaDoor
open Go.PI
set_option maxRecDepth 100000
set_option maxHeartbeats 8000000
set_option linter.unusedSimpArgs false
def ng (w : Int) : Int := IntKind.i64.wrap (-w)
theorem ng_eq (w : Int) : IntKind.i64.wrap (-w) = ng w := rfl
def meantB (n w : Int) (x : Px) : Bool := decide (x.r.ppid = n) && (decide (w = 0) || decide (0 < w) && decide (x.r.pid = w) || decide (w < 0) && decide (x.r.pgid = ng w))
def readyB (f : Int) (x : Px) : Bool := if x.r.state = 3 then true else if x.r.state = 2 then x.r.changed && decide (abits .and .i64 f 2 ≠ 0) else x.r.changed && decide (abits .and .i64 f 4 ≠ 0)
theorem c57x (x : Px) (n w : Int) : callW tbl 57 [encX x, .int .i64 n, .int .i64 w] = some (.bool (meantB n w x), []) := by
  rw [call_run tbl (f := 57) (fn := f57) rfl _ rfl]
  unfold meantB
  by_cases h1 : x.r.ppid = n
  · by_cases h2 : w = 0
    · simp [f57, f57body, eq_true h1, h2]
    · by_cases h3 : 0 < w
      · by_cases h4 : x.r.pid = w
        · simp [f57, f57body, eq_true h1, h2, h3, eq_true h4]
        · simp [f57, f57body, eq_true h1, h2, h3, h4, show ¬ w < 0 by omega]
      · by_cases h5 : x.r.pgid = ng w
        · simp [f57, f57body, eq_true h1, h2, h3, show w < 0 by omega, ng_eq, eq_true h5]
        · simp [f57, f57body, eq_true h1, h2, h3, show w < 0 by omega, ng_eq, h5]
  · simp [f57, f57body, h1]
theorem c58x (x : Px) (f : Int) : callW tbl 58 [encX x, .int .i64 f] = some (.bool (readyB f x), []) := by
  rw [call_run tbl (f := 58) (fn := f58) rfl _ rfl]
  unfold readyB
  by_cases h1 : x.r.state = 3
  · simp [f58, f58body, h1]
  · by_cases h2 : x.r.state = 2
    · cases h3 : x.r.changed
      · simp [f58, f58body, h2, h3]
      · by_cases h4 : abits .and .i64 f 2 = 0 <;> simp [f58, f58body, h2, h3, h4]
    · cases h3 : x.r.changed
      · simp [f58, f58body, h1, h2, h3]
      · by_cases h4 : abits .and .i64 f 4 = 0 <;> simp [f58, f58body, h1, h2, h3, h4]
theorem c51x (x : Px) (f : Int) : callW tbl 51 [encX x, .int .i64 f] = some (.bool (readyB f x), []) := by
  rw [call_run tbl (f := 51) (fn := f51) rfl _ rfl]
  unfold readyB
  by_cases h1 : x.r.state = 3
  · simp [f51, f51body, h1]
  · by_cases h2 : x.r.state = 2
    · cases h3 : x.r.changed
      · simp [f51, f51body, h2, h3]
      · by_cases h4 : abits .and .i64 f 2 = 0 <;> simp [f51, f51body, h2, h3, h4]
    · cases h3 : x.r.changed
      · simp [f51, f51body, h1, h2, h3]
      · by_cases h4 : abits .and .i64 f 4 = 0 <;> simp [f51, f51body, h1, h2, h3, h4]
theorem cv49 {A : List AO} {n w : Int} (h0 : A[0]? = some (.box 3 1 (.int .i64 n))) (h1 : A[1]? = some (.box 3 1 (.int .i64 w))) : Looks 49 [.bptr 0 0, .bptr 1 0] (meantB n w) A := by
  intro x Z
  refine ⟨[.box 30 13 (encX x)], ?_⟩
  rw [callV_run tbl (f := 49) (fn := f49) rfl _ _ rfl]
  have g0 := fun Z => getL (Z := Z) h0
  have g1 := fun Z => getL (Z := Z) h1
  unfold meantB
  by_cases k1 : x.r.ppid = n
  · by_cases h2 : w = 0
    · rw [h2] at g1
      simp [f49, f49body, g0, g1, eq_true k1, h2]
    · by_cases h3 : 0 < w
      · by_cases h4 : x.r.pid = w
        · simp [f49, f49body, g0, g1, eq_true k1, h2, h3, eq_true h4]
        · simp [f49, f49body, g0, g1, eq_true k1, h2, h3, h4, show ¬ w < 0 by omega]
      · by_cases h5 : x.r.pgid = ng w
        · simp [f49, f49body, g0, g1, eq_true k1, h2, h3, show w < 0 by omega, ng_eq, eq_true h5]
        · simp [f49, f49body, g0, g1, eq_true k1, h2, h3, show w < 0 by omega, ng_eq, h5]
  · simp [f49, f49body, g0, g1, k1]
theorem cv50 {A : List AO} {j : Nat} {f : Int} (h : A[j]? = some (.box 3 1 (.int .i64 f))) : Looks 50 [.bptr j 0] (readyB f) A := by
  intro x Z
  refine ⟨[.box 30 13 (encX x)], ?_⟩
  rw [callV_run tbl (f := 50) (fn := f50) rfl _ _ rfl]
  have h51 := c51x x f
  simp [f50, f50body, getL h, h51]
theorem cv53 {A : List AO} {j : Nat} {y : Px} (h : A[j]? = some (.box 30 13 (encX y))) : Looks 53 [.bptr j 0] (pidX y.r.pid) A := by
  intro x Z
  refine ⟨[.box 30 13 (encX x)], ?_⟩
  rw [callV_run tbl (f := 53) (fn := f53) rfl _ _ rfl]
  by_cases h1 : x.r.pid = y.r.pid
  · simp [f53, f53body, getL h, eq_true h1, pidX]
  · simp [f53, f53body, getL h, h1, pidX]
/- what Wait gives -/
def clr (x : Px) : Px := { x with r := { x.r with changed := false } }
abbrev mr (n w f : Int) (x : Px) : Bool := meantB n w x && readyB f x
def waL (L : List Px) (j : Int) (x : Px) : List Px := if x.r.state = 3 then L.eraseIdx j.toNat else upd L j clr
structure WO where
  l : Option (List Px)
  pid : Int
  st : Int
  io : Int
  err : Int
def waE (l : List Px) (n w f : Int) (s : Bool) (i : Nat) : WO := if s = false ∧ (l.drop i).any (meantB n w) = false then ⟨none, 0, 0, 0, 20⟩ else ⟨none, 0, 0, if abits .and .i64 f 1 ≠ 0 then 3 else 2, 0⟩
def waF (l L : List Px) (n w f : Int) (s : Bool) (i : Nat) : WO := if ixG (mr n w f) (l.drop i) i < 0 then waE l n w f s i else ⟨some (waL L (ixG (mr n w f) (l.drop i) i) (atX l (ixG (mr n w f) (l.drop i) i))), (atX l (ixG (mr n w f) (l.drop i) i)).r.pid, (atX l (ixG (mr n w f) (l.drop i) i)).r.status, 1, 0⟩
def waS (l L : List Px) (n w f : Int) : WO := if ixG (liveX n) l 0 < 0 then ⟨none, 0, 0, 0, 21⟩ else waF l L n w f false 0
abbrev oc5 (l : List Px) (o : WO) : Option (AV × List AO) := match o.l with
  | none => some (.tup [pX l, .int .i64 o.pid, .int .i64 o.st, .int .i64 o.io, .int .i64 o.err], [])
  | some R => some (.tup [.ref 0 0 0 R.length, .int .i64 o.pid, .int .i64 o.st, .int .i64 o.io, .int .i64 o.err], [.row 30 13 0 (R.map encX)])
theorem era {l : List Px} (i : Nat) : (l.eraseIdx i).map encX = (l.take i).map encX ++ (l.drop (i + 1)).map encX := by rw [List.eraseIdx_eq_take_drop_succ, List.map_append]
abbrev tail22 : IC := (f22r17.seq (.cond (.t 65) (f22r18.seq .ret) .skip)).seq ((f22r19.seq (.cond (.t 69) (f22r20.seq .ret) .skip)).seq (f22r21.seq .ret))
theorem t22x {l : List Px} (hl : l.length ≤ 1000000) (n w f : Int) : ∀ (m i : Nat) (s : Bool) (H : List AO), i + m = l.length → run tbl (.cl [.tmp 8, .tmp 9, .tmp 10, .tmp 11, .tmp 12]) [.blk 0, .seq tail22] (.loop [14, 13, 1, 2, 0, 3] f22b16) [(14, .int .i64 i), (13, .bool s), (1, .int .i64 n), (2, .int .i64 w), (0, pX l), (3, .int .i64 f)] H = oc5 l (waF l l n w f s i)
  | 0, i, s, H, h => by
    rw [run_loopD _ _ f22b16_eq]
    unfold waF waE
    rw [any_end (by omega), List.drop_eq_nil_of_le (by omega), ixG, if_pos (by omega)]
    cases s
    · rw [if_pos (by simp)]
      simp [show ¬ i < l.length by omega]
    · rw [if_neg (by simp)]
      by_cases hf : abits .and .i64 f 1 = 0
      · simp [show ¬ i < l.length by omega, hf]
      · simp [show ¬ i < l.length by omega, hf]
  | m + 1, i, s, H, h => by
    have hi : i < l.length := by omega
    have ih := fun s H => t22x hl n w f m (i + 1) s H (by omega)
    rw [Int.natCast_succ] at ih
    have h57 := c57x l[i] n w
    have h58 := c58x l[i] f
    rw [run_loopD _ _ f22b16_eq]
    cases hm : meantB n w l[i]
    · rw [hm] at h57
      have e : waF l l n w f s i = waF l l n w f s (i + 1) := by
        have q : ixG (mr n w f) (l.drop i) i = ixG (mr n w f) (l.drop (i + 1)) (i + 1) := by rw [ixG_step hi, if_neg (by simp [mr, hm])]
        unfold waF waE
        rw [q, any_step hi, hm, Bool.false_or]
      rw [e]
      have ih := ih s
      generalize waF l l n w f s (i + 1) = R at ih ⊢
      simp [hi, h57, wrapS i (by omega), ih]
    · rw [hm] at h57
      cases hr : readyB f l[i]
      · rw [hr] at h58
        have e : waF l l n w f s i = waF l l n w f true (i + 1) := by
          have q : ixG (mr n w f) (l.drop i) i = ixG (mr n w f) (l.drop (i + 1)) (i + 1) := by rw [ixG_step hi, if_neg (by simp [mr, hr])]
          unfold waF waE
          rw [q, any_step hi, hm, Bool.true_or]
          simp
        rw [e]
        have ih := ih true
        generalize waF l l n w f true (i + 1) = R at ih ⊢
        simp [hi, h57, h58, wrapS i (by omega), ih]
      · rw [hr] at h58
        have e : waF l l n w f s i = ⟨some (waL l i l[i]), l[i].r.pid, l[i].r.status, 1, 0⟩ := by
          have q : ixG (mr n w f) (l.drop i) i = i := by rw [ixG_step hi, if_pos (by simp [mr, hm, hr])]
          unfold waF
          rw [q, if_neg (by omega), atX_eq hi]
        rw [e]
        have h59 := c59x hl
        unfold waL
        by_cases h3 : l[i].r.state = 3
        · rw [if_pos h3, show ((i : Int)).toNat = i by omega]
          have h59' := c59x (l := l.take i) (by simp; omega)
          have hE := era (l := l) i
          have hEl : (l.eraseIdx i).length = l.length - 1 := List.length_eraseIdx_of_lt hi
          generalize l.eraseIdx i = R at hE hEl ⊢
          have hmin : min i l.length = i := by omega
          have hsum : i + (l.length - (i + 1)) = l.length - 1 := by omega
          have wi := wrapS i (by omega)
          simp [pX, hmin] at h59' hE wi
          have hD : (List.drop (i + 1) (List.map encX l)).take (l.length - (i + 1)) = List.drop (i + 1) (List.map encX l) := List.take_of_length_le (by simp)
          have hX : (List.take i (List.map encX l) ++ List.drop (i + 1) (List.map encX l)).take (l.length - 1) = List.take i (List.map encX l) ++ List.drop (i + 1) (List.map encX l) := List.take_of_length_le (by simp; omega)
          simp [hi, h57, h58, h59, h59', eq_true h3, wi, hE, hEl, hmin, hD, hX, hsum, show l.length ≤ 1073741825 by omega, show i ≤ l.length by omega, show i + 1 ≤ l.length by omega, show (0 : Int) ≤ (i : Int) + 1 by omega, show ((i : Int) + 1).toNat = i + 1 by omega, oc5]
        · rw [if_neg h3]
          have hu := upd_at l i hi clr
          have hln := upd_len l i clr
          generalize upd l i clr = R at hu hln ⊢
          simp [hi, h57, h58, h59, h3, hu, hln, clr, oc5]
end Go.Proofs.YtgppkhbidcgnlaaDoor
