/- Jobs: the table with Update by its contract; the packages' tables; the chapter's examples. No condition. -/
import Derived.Test.YtpphfbfmoipoaaaDoorJe
namespace Go.Proofs.YtpphfbfmoipoaaaDoor
open Go.PI
set_option maxRecDepth 100000
set_option maxHeartbeats 8000000
set_option linter.unusedSimpArgs false
/-- the jobs after a process has changed -/
def updO (l : List Jb) (p w : Int) : Option (List Jb) :=
  match memO p l 0 with
  | none => none
  | some (i, a) => if kd w < 0 then none else match l[i]? with
    | none => none
    | some x =>
      if stL (x.stats.set a (if w = 768 then -1 else w)) false = x.state then some (l.set i { x with stats := x.stats.set a (if w = 768 then -1 else w) })
      else if stL (x.stats.set a (if w = 768 then -1 else w)) false = 2 then some (l.eraseIdx i ++ [{ x with stats := x.stats.set a (if w = 768 then -1 else w), state := 2, noted := false }])
      else some (l.set i { x with stats := x.stats.set a (if w = 768 then -1 else w), state := stL (x.stats.set a (if w = 768 then -1 else w)) false, noted := false })
theorem memO_at {p : Int} : ∀ {l : List Jb} {k i a : Nat}, memO p l k = some (i, a) → ∃ L1 x L2, l = L1 ++ x :: L2 ∧ k + L1.length = i ∧ ixN p x.pids 0 = some a ∧ a < x.stats.length
  | [], k, i, a, h => by simp [memO] at h
  | j :: r, k, i, a, h => by
    have next : memO p r (k + 1) = some (i, a) → ∃ L1 x L2, j :: r = L1 ++ x :: L2 ∧ k + L1.length = i ∧ ixN p x.pids 0 = some a ∧ a < x.stats.length := by
      intro h
      obtain ⟨L1, x, L2, rfl, h2, h3, h4⟩ := memO_at h
      exact ⟨j :: L1, x, L2, rfl, by simp; omega, h3, h4⟩
    simp only [memO] at h
    split at h
    · rename_i b hb
      split at h
      · rename_i hlt
        simp only [Option.some.injEq, Prod.mk.injEq] at h
        obtain ⟨rfl, rfl⟩ := h
        exact ⟨[], j, r, rfl, by simp, hb, hlt⟩
      · exact next h
    · exact next h
abbrev WJ (j : Jb) : Prop := ∀ n ∈ j.stats, n ≤ mx
def outU (l : List Jb) : Option (List Jb) → Option (AV × List AO)
  | none => some (.tup [jl l, .bool false], [])
  | some r => some (.tup [.ref 0 0 0 r.length, .bool true], [.row 42 7 0 (r.map encJ)])
theorem u21 (l : List Jb) (p w : Int) (hl : l.length ≤ 1000000) (hb : ∀ j ∈ l, BJ j) (hs : ∀ j ∈ l, WJ j) (hw : w ≤ mx) : callW utbl 21 [jl l, .int .i64 p, .int .i64 w] = outU l (updO l p w) := by
  unfold updO
  cases hm : memO p l 0 with
  | none => exact u21a l p w hl hb hw (.inl hm)
  | some r =>
    obtain ⟨i, a⟩ := r
    by_cases hk : kd w < 0
    · simp only [if_pos hk]; exact u21a l p w hl hb hw (.inr hk)
    · obtain ⟨L1, x, L2, hL, hi, hx, ha⟩ := memO_at hm
      simp only [Nat.zero_add] at hi
      subst hi
      simp only [if_neg hk]
      have hget : l[L1.length]? = some x := by rw [hL]; simp
      have hset : ∀ y, l.set L1.length y = L1 ++ y :: L2 := by intro y; rw [hL]; simp
      have her : l.eraseIdx L1.length = L1 ++ L2 := by rw [hL, List.eraseIdx_append_of_length_le (Nat.le_refl _)]; simp
      rw [hget]
      simp only [hset, her]
      have hsx := hs x (by rw [hL]; simp)
      generalize hW : (if w = 768 then -1 else w) = W
      by_cases h1 : stL (x.stats.set a W) false = x.state
      · rw [if_pos h1, u21b l L1 L2 x p w W a hL hl hb hsx hw hW.symm hm ha hk h1]
        simp [outU, hL]
      · rw [if_neg h1]
        by_cases h2 : stL (x.stats.set a W) false = 2
        · rw [if_pos h2, u21d l L1 L2 x p w W a hL hl hb hsx hw hW.symm hm ha hk h1 h2]
          simp [outU, hL, Nat.add_assoc]
        · rw [if_neg h2, u21c l L1 L2 x p w W a hL hl hb hsx hw hW.symm hm ha hk h1 h2]
          simp [outU, hL]
/- how a list of jobs is read back -/
def intsOf : List AV → Option (List Int)
  | [] => some []
  | .int .i64 n :: r => (intsOf r).map (n :: ·)
  | _ :: _ => none
theorem intsOf_eq : ∀ {es : List AV} {l : List Int}, intsOf es = some l → es = im l
  | [], l, h => by simp [intsOf] at h; subst h; rfl
  | e :: es, l, h => by
    have key : ∃ n, e = .int .i64 n ∧ (intsOf es).map (n :: ·) = some l := by
      cases e with
      | int k n => cases k <;> first | exact ⟨n, rfl, h⟩ | (simp [intsOf] at h; done)
      | _ => simp [intsOf] at h
    obtain ⟨n, rfl, h⟩ := key
    obtain ⟨q, hq, rfl⟩ := Option.map_eq_some_iff.1 h
    rw [intsOf_eq hq]; rfl
def jbOf : AV → Option Jb
  | .agg [.int .i64 a, .int .i64 b, .int .i64 c, .sl 1 x, .sl 1 y, .str t, .bool n] => (intsOf x).bind fun p => (intsOf y).map fun s => ⟨a, b, c, p, s, t, n⟩
  | _ => none
theorem jbOf_eq {v : AV} {j : Jb} (h : jbOf v = some j) : v = encJ j := by
  unfold jbOf at h
  split at h
  · obtain ⟨p, hp, h⟩ := Option.bind_eq_some_iff.1 h
    obtain ⟨s, hs, rfl⟩ := Option.map_eq_some_iff.1 h
    rw [intsOf_eq hp, intsOf_eq hs]
  · cases h
def jbsOf : List AV → Option (List Jb)
  | [] => some []
  | v :: r => (jbOf v).bind fun j => (jbsOf r).map (j :: ·)
theorem jbsOf_eq : ∀ {es : List AV} {l : List Jb}, jbsOf es = some l → es = l.map encJ
  | [], l, h => by simp [jbsOf] at h; subst h; rfl
  | v :: r, l, h => by
    simp only [jbsOf] at h
    obtain ⟨j, hj, h⟩ := Option.bind_eq_some_iff.1 h
    obtain ⟨q, hq, rfl⟩ := Option.map_eq_some_iff.1 h
    rw [jbOf_eq hj, jbsOf_eq hq]; rfl
@[simp] theorem intsOf_im : ∀ l : List Int, intsOf (im l) = some l
  | [] => rfl
  | n :: r => by simp only [im, List.map_cons, intsOf]; rw [show List.map (AV.int .i64) r = im r from rfl, intsOf_im r]; rfl
@[simp] theorem jbOf_enc (j : Jb) : jbOf (encJ j) = some j := by simp only [jbOf, intsOf_im, Option.bind_some, Option.map_some]
@[simp] theorem jbsOf_enc : ∀ l : List Jb, jbsOf (l.map encJ) = some l
  | [] => rfl
  | j :: r => by simp only [List.map_cons, jbsOf, jbOf_enc, Option.bind_some, jbsOf_enc r, Option.map_some]
def okU (l : List Jb) (w : Int) : Bool := decide (l.length ≤ 1000000) && decide (w ≤ mx) && l.all fun j => decide (j.pids.length ≤ 1000000) && decide (j.stats.length ≤ 1000000) && j.stats.all fun n => decide (n ≤ mx)
def updX : AV → AV → AV → Option (AV × List AO)
  | .sl 7 es, .int .i64 p, .int .i64 w => (jbsOf es).bind fun l => if okU l w = true then outU l (updO l p w) else none
  | _, _, _ => none
theorem okU_iff {l : List Jb} {w : Int} : okU l w = true ↔ l.length ≤ 1000000 ∧ w ≤ mx ∧ ∀ j ∈ l, BJ j ∧ WJ j := by
  simp only [okU, Bool.and_eq_true, decide_eq_true_eq, List.all_eq_true, and_assoc]
theorem upd_ok (m : Int) (x y z res : AV) (rows : List AO) (h : updX x y z = some (res, rows)) : FnOk (cfg m) Tryd.prog 21 [x, y, z] res rows := by
  unfold updX at h
  split at h
  · rename_i es p w
    obtain ⟨l, hl0, h2⟩ := Option.bind_eq_some_iff.1 h
    clear h
    split at h2
    case isFalse => cases h2
    rename_i hk
    obtain rfl := jbsOf_eq hl0
    obtain ⟨k1, k2, k3⟩ := okU_iff.1 hk
    refine fn_c (callW_sound mixed (utblOk m) ?_)
    rw [u21 l p w k1 (fun j hj => (k3 j hj).1) (fun j hj => (k3 j hj).2) k2]
    exact h2
  · cases h
def tbl : TB := ⟨fun f => if f = 21 then none else tbl0F f, fun f args => match f, args with
  | 21, [x, y, z] => updX x y z
  | f, args => ext0 f args, extO0⟩
theorem tblOk (m : Int) : TBok Tryd.prog (cfg m) tbl := by
  refine ⟨fun f fn h => ?_, fun f args res rows _ h => ?_, fun f args H res H' _ h => extO0_ok m f args H res H' h⟩
  · simp only [tbl] at h
    split at h
    · cases h
    · exact (tbl0_ok m).fn f fn h
  · simp only [tbl] at h
    split at h
    · exact ⟨upd_ok m _ _ _ _ _ h, callee21⟩
    · exact ext0_ok m _ _ _ _ h
theorem tbl_fn : tbl.fn = tbl0F := by
  funext f
  show (if f = 21 then none else tbl0F f) = tbl0F f
  split
  · rename_i h; subst h; rfl
  · rfl
theorem c10 : callW tbl 10 [] = some (.bool true, []) := callW_of tbl (k := 1500) (by kernel_rfl)
end Go.Proofs.YtpphfbfmoipoaaaDoor
