/- The interpreter without fuel: the equations by which a call is evaluated. No condition. -/
import Derived.Test.YtpphfbfmoipoaaaDoorPi18
namespace Go.PI
open Go.RowKit

structure PhiLe (φ ψ : Phi) : Prop where
  cl : ∀ f args r, φ.cl f args = some r → ψ.cl f args = some r
  op : ∀ f args H r, φ.op f args H = some r → ψ.op f args H = some r

theorem aop_mono {φ ψ : Phi} (h : PhiLe φ ψ) {op : IOp} {e : Env} {H : List AO} {r : AV × List AO} (ha : aop φ op e H = some r) : aop ψ op e H = some r := by
  cases op <;> try exact ha
  · simp only [aop] at ha ⊢
    split at ha
    · obtain ⟨q, hq, ha⟩ := Option.map_eq_some_iff.1 ha
      rw [h.cl _ _ _ hq]
      simpa using ha
    · cases ha
  · simp only [aop] at ha ⊢
    split at ha
    · exact h.op _ _ _ _ ha
    · cases ha
  · simp only [aop] at ha ⊢
    split at ha
    · obtain ⟨q, hq, ha⟩ := Option.map_eq_some_iff.1 ha
      rw [h.cl _ _ _ hq]
      simpa using ha
    · cases ha
  · simp only [aop] at ha ⊢
    split at ha
    · exact h.op _ _ _ _ ha
    · cases ha

theorem runOps_mono {φ ψ : Phi} (h : PhiLe φ ψ) : ∀ (ops : List IOper) (e : Env) (H : List AO) (r : Env × List AO), runOps φ ops e H = some r → runOps ψ ops e H = some r
  | [], e, H, r, hr => hr
  | o :: l, e, H, r, hr => by
    simp only [runOps] at hr ⊢
    obtain ⟨b, hb, hr⟩ := Option.bind_eq_some_iff.1 hr
    rw [hb]
    simp only [Option.bind_some]
    cases b with
    | true =>
      simp only [if_true] at hr ⊢
      obtain ⟨q, hq, hr⟩ := Option.bind_eq_some_iff.1 hr
      rw [aop_mono h hq]
      exact runOps_mono h l _ _ r hr
    | false =>
      simp only [Bool.false_eq_true, if_false] at hr ⊢
      exact runOps_mono h l _ _ r hr

theorem runDT_mono {φ ψ : Phi} (h : PhiLe φ ψ) (keep : List Nat) : ∀ (t : DT) (e : Env) (H : List AO) (r : Env × List AO), runDT φ keep t e H = some r → runDT ψ keep t e H = some r
  | .nil, e, H, r, hr => hr
  | .op o t, e, H, r, hr => by
    simp only [runDT] at hr ⊢
    obtain ⟨q, hq, hr⟩ := Option.bind_eq_some_iff.1 hr
    rw [runOps_mono h [o] _ _ q hq]
    exact runDT_mono h keep t _ _ r hr
  | .br a b, e, H, r, hr => by
    simp only [runDT] at hr ⊢
    obtain ⟨x, hx, hr⟩ := Option.bind_eq_some_iff.1 hr
    obtain ⟨y, hy, hr⟩ := Option.bind_eq_some_iff.1 hr
    rw [runDT_mono h keep a _ _ x hx]
    simp only [Option.bind_some]
    rw [runDT_mono h keep b _ _ y hy]
    exact hr

section
variable (tbl : TB)

theorem callN_le_of {k : Nat} (h : ∀ c e H r, exN tbl k c e H = some r → exN tbl (k + 1) c e H = some r) : PhiLe (phiN tbl k) (phiN tbl (k + 1)) := by
  constructor
  · intro f args r hr
    have hr : callN tbl k f args = some r := hr
    show callN tbl (k + 1) f args = some r
    unfold callN at hr ⊢
    split at hr
    · rename_i fn hfn
      split at hr
      · rename_i hn
        simp only [if_pos hn]
        obtain ⟨q, hq, hr⟩ := Option.bind_eq_some_iff.1 hr
        rw [h _ _ _ _ hq]
        exact hr
      · cases hr
    · exact hr
  · intro f args H r hr
    have hr : callO tbl k f args H = some r := hr
    show callO tbl (k + 1) f args H = some r
    unfold callO at hr ⊢
    split at hr
    · rename_i fn hfn
      split at hr
      · rename_i hn
        simp only [if_pos hn]
        obtain ⟨q, hq, hr⟩ := Option.bind_eq_some_iff.1 hr
        rw [h _ _ _ _ hq]
        exact hr
      · cases hr
    · exact hr

theorem exN_succ : ∀ (k : Nat) (c : IC) (e : Env) (H : List AO) (r : Ex × Env × List AO), exN tbl k c e H = some r → exN tbl (k + 1) c e H = some r
  | 0, c, e, H, r, h => by simp [exN] at h
  | k + 1, c, e, H, r, h => by
    have ih := exN_succ k
    cases c with
    | skip => exact h
    | exit id => exact h
    | ret => exact h
    | bad => exact h
    | scope b => simp only [exN] at h; show exN tbl (k + 1) b e H = some r; exact ih _ _ _ _ h
    | reg d tags ops keep =>
      have h' : (runOps (phiN tbl k) (if d then ops.map IOper.bare else ops) e (H ++ tags.map .rsv)).map (fun r => (Ex.normal, scrub keep r.1, r.2)) = some r := h
      show (runOps (phiN tbl (k + 1)) (if d then ops.map IOper.bare else ops) e (H ++ tags.map .rsv)).map (fun r => (Ex.normal, scrub keep r.1, r.2)) = some r
      obtain ⟨q, hq, h2⟩ := Option.map_eq_some_iff.1 h'
      rw [runOps_mono (callN_le_of tbl ih) _ e _ q hq]
      simpa using h2
    | rega t keep =>
      have h' : (runDT (phiN tbl k) keep t e H).map (fun r => (Ex.normal, scrub keep r.1, r.2)) = some r := h
      show (runDT (phiN tbl (k + 1)) keep t e H).map (fun r => (Ex.normal, scrub keep r.1, r.2)) = some r
      obtain ⟨q, hq, h2⟩ := Option.map_eq_some_iff.1 h'
      rw [runDT_mono (callN_le_of tbl ih) keep _ e _ q hq]
      simpa using h2
    | seq a b =>
      simp only [exN] at h
      obtain ⟨q, hq, h⟩ := Option.bind_eq_some_iff.1 h
      show (exN tbl (k + 1) a e H).bind (thenEx fun e H => exN tbl (k + 1) b e H) = some r
      rw [ih _ _ _ _ hq]
      simp only [Option.bind_some]
      obtain ⟨ex, e1, H1⟩ := q
      cases ex with
      | normal => exact ih _ _ _ _ h
      | ret => exact h
      | exit id => exact h
    | cond c a b =>
      simp only [exN] at h
      show onBool (c.ev e) (exN tbl (k + 1) a e H) (exN tbl (k + 1) b e H) = some r
      unfold onBool at h ⊢
      split at h
      · rename_i t ht
        cases t with
        | true => simp only [if_true] at h ⊢; exact ih _ _ _ _ h
        | false => simp only [Bool.false_eq_true, if_false] at h ⊢; exact ih _ _ _ _ h
      · cases h
    | block id b =>
      simp only [exN] at h
      obtain ⟨q, hq, h⟩ := Option.map_eq_some_iff.1 h
      show (exN tbl (k + 1) b e H).map (outBlock id) = some r
      rw [ih _ _ _ _ hq]
      simpa using h
    | loop keep b =>
      simp only [exN] at h
      obtain ⟨q, hq, h⟩ := Option.bind_eq_some_iff.1 h
      show (exN tbl (k + 1) b (scrub keep e) H).bind (thenEx fun e H => exN tbl (k + 1) (.loop keep b) e H) = some r
      rw [ih _ _ _ _ hq]
      simp only [Option.bind_some]
      obtain ⟨ex, e1, H1⟩ := q
      cases ex with
      | normal => exact ih _ _ _ _ h
      | ret => exact h
      | exit id => exact h

theorem exN_le {k m : Nat} (hkm : k ≤ m) {c : IC} {e : Env} {H : List AO} {r : Ex × Env × List AO} (h : exN tbl k c e H = some r) : exN tbl m c e H = some r := by
  induction hkm with
  | refl => exact h
  | step _ ih => exact exN_succ tbl _ _ _ _ _ ih

theorem phiN_le {k m : Nat} (hkm : k ≤ m) : PhiLe (phiN tbl k) (phiN tbl m) := by
  induction hkm with
  | refl => exact ⟨fun _ _ _ h => h, fun _ _ _ _ h => h⟩
  | @step m' _ ih =>
    have h := callN_le_of tbl (k := m') (exN_succ tbl m')
    exact ⟨fun f args r hr => h.cl _ _ _ (ih.cl _ _ _ hr), fun f args H r hr => h.op _ _ _ _ (ih.op _ _ _ _ hr)⟩

open Classical in
/-- What code comes to, however many steps it takes. -/
noncomputable def exW (c : IC) (e : Env) (H : List AO) : Option (Ex × Env × List AO) :=
  if h : ∃ k r, exN tbl k c e H = some r then some (Classical.choose (Classical.choose_spec h)) else none

open Classical in
/-- What a call comes to. -/
noncomputable def callW (f : Nat) (args : List AV) : Option (AV × List AO) :=
  if h : ∃ k r, callN tbl k f args = some r then some (Classical.choose (Classical.choose_spec h)) else none

open Classical in
/-- What a call in the caller's frame comes to. -/
noncomputable def callV (f : Nat) (args : List AV) (H : List AO) : Option (AV × List AO) :=
  if h : ∃ k r, callO tbl k f args H = some r then some (Classical.choose (Classical.choose_spec h)) else none

noncomputable def phiW : Phi := ⟨callW tbl, callV tbl⟩

theorem exW_iff {c : IC} {e : Env} {H : List AO} {r : Ex × Env × List AO} : exW tbl c e H = some r ↔ ∃ k, exN tbl k c e H = some r := by
  unfold exW
  split
  · rename_i h
    have hs := Classical.choose_spec (Classical.choose_spec h)
    constructor
    · intro he
      injection he with he
      exact ⟨_, by rw [← he]; exact hs⟩
    · rintro ⟨m, hm⟩
      have h1 := exN_le tbl (Nat.le_max_left (Classical.choose h) m) hs
      have h2 := exN_le tbl (Nat.le_max_right (Classical.choose h) m) hm
      rw [h1] at h2
      exact h2
  · rename_i h
    constructor
    · intro he; cases he
    · rintro ⟨m, hm⟩; exact absurd ⟨m, r, hm⟩ h

theorem callW_iff {f : Nat} {args : List AV} {r : AV × List AO} : callW tbl f args = some r ↔ ∃ k, callN tbl k f args = some r := by
  unfold callW
  split
  · rename_i h
    have hs := Classical.choose_spec (Classical.choose_spec h)
    constructor
    · intro he
      injection he with he
      exact ⟨_, by rw [← he]; exact hs⟩
    · rintro ⟨m, hm⟩
      have h1 : callN tbl (max (Classical.choose h) m) f args = _ := (phiN_le tbl (Nat.le_max_left (Classical.choose h) m)).cl _ _ _ hs
      have h2 : callN tbl (max (Classical.choose h) m) f args = _ := (phiN_le tbl (Nat.le_max_right (Classical.choose h) m)).cl _ _ _ hm
      rw [h1] at h2
      exact h2
  · rename_i h
    constructor
    · intro he; cases he
    · rintro ⟨m, hm⟩; exact absurd ⟨m, r, hm⟩ h

theorem callV_iff {f : Nat} {args : List AV} {H : List AO} {r : AV × List AO} : callV tbl f args H = some r ↔ ∃ k, callO tbl k f args H = some r := by
  unfold callV
  split
  · rename_i h
    have hs := Classical.choose_spec (Classical.choose_spec h)
    constructor
    · intro he
      injection he with he
      exact ⟨_, by rw [← he]; exact hs⟩
    · rintro ⟨m, hm⟩
      have h1 : callO tbl (max (Classical.choose h) m) f args H = _ := (phiN_le tbl (Nat.le_max_left (Classical.choose h) m)).op _ _ _ _ hs
      have h2 : callO tbl (max (Classical.choose h) m) f args H = _ := (phiN_le tbl (Nat.le_max_right (Classical.choose h) m)).op _ _ _ _ hm
      rw [h1] at h2
      exact h2
  · rename_i h
    constructor
    · intro he; cases he
    · rintro ⟨m, hm⟩; exact absurd ⟨m, r, hm⟩ h

theorem callV_of {k f : Nat} {args : List AV} {H : List AO} {r : AV × List AO} (h : callO tbl k f args H = some r) : callV tbl f args H = some r := (callV_iff tbl).2 ⟨k, h⟩

theorem callW_of {k f : Nat} {args : List AV} {r : AV × List AO} (h : callN tbl k f args = some r) : callW tbl f args = some r := (callW_iff tbl).2 ⟨k, h⟩

theorem opt_ext {α : Type} {a b : Option α} (h : ∀ r, a = some r ↔ b = some r) : a = b := by
  cases a with
  | none => cases b with
    | none => rfl
    | some y => exact ((h y).2 rfl)
  | some x => exact ((h x).1 rfl).symm

theorem callW_eq (f : Nat) (args : List AV) : callW tbl f args = match tbl.fn f with
    | some fn => if args.length = fn.np then (exW tbl fn.body (bindArgs 0 args) []).bind (finish fn.res) else none
    | none => tbl.ext f args := by
  apply opt_ext
  intro r
  rw [callW_iff]
  unfold callN
  cases hfn : tbl.fn f with
  | none => simp only; exact ⟨fun ⟨_, h⟩ => h, fun h => ⟨0, h⟩⟩
  | some fn =>
    simp only
    split
    · rename_i hn
      constructor
      · rintro ⟨k, hk⟩
        obtain ⟨q, hq, hk⟩ := Option.bind_eq_some_iff.1 hk
        rw [(exW_iff tbl).2 ⟨k, hq⟩]
        exact hk
      · intro h
        obtain ⟨q, hq, h⟩ := Option.bind_eq_some_iff.1 h
        obtain ⟨k, hk⟩ := (exW_iff tbl).1 hq
        exact ⟨k, by rw [hk]; exact h⟩
    · simp

theorem callV_eq (f : Nat) (args : List AV) (H : List AO) : callV tbl f args H = match tbl.fn f with
    | some fn => if args.length = fn.np then (exW tbl fn.body (bindArgs 0 args) H).bind (finishO fn.res) else none
    | none => tbl.extO f args H := by
  apply opt_ext
  intro r
  rw [callV_iff]
  unfold callO
  cases hfn : tbl.fn f with
  | none => simp only; exact ⟨fun ⟨_, h⟩ => h, fun h => ⟨0, h⟩⟩
  | some fn =>
    simp only
    split
    · rename_i hn
      constructor
      · rintro ⟨k, hk⟩
        obtain ⟨q, hq, hk⟩ := Option.bind_eq_some_iff.1 hk
        rw [(exW_iff tbl).2 ⟨k, hq⟩]
        exact hk
      · intro h
        obtain ⟨q, hq, h⟩ := Option.bind_eq_some_iff.1 h
        obtain ⟨k, hk⟩ := (exW_iff tbl).1 hq
        exact ⟨k, by rw [hk]; exact h⟩
    · simp

theorem runW_iff : ∀ (ops : List IOper) (e : Env) (H : List AO) (r : Env × List AO), runOps (phiW tbl) ops e H = some r → ∃ k, runOps (phiN tbl k) ops e H = some r
  | [], e, H, r, h => ⟨0, h⟩
  | o :: l, e, H, r, h => by
    simp only [runOps] at h
    obtain ⟨b, hb, h⟩ := Option.bind_eq_some_iff.1 h
    cases b with
    | false =>
      simp only [Bool.false_eq_true, if_false] at h
      obtain ⟨k, hk⟩ := runW_iff l _ _ r h
      exact ⟨k, by simp only [runOps, hb, Option.bind_some, Bool.false_eq_true, if_false]; exact hk⟩
    | true =>
      simp only [if_true] at h
      obtain ⟨q, hq, h⟩ := Option.bind_eq_some_iff.1 h
      obtain ⟨k, hk⟩ := runW_iff l _ _ r h
      have hop : ∃ m, aop (phiN tbl m) o.op e H = some q := by
        cases hop : o.op with
        | call f args =>
          rw [hop] at hq
          simp only [aop] at hq
          split at hq
          · rename_i fid caps hf
            obtain ⟨p, hp, hq⟩ := Option.map_eq_some_iff.1 hq
            obtain ⟨m, hm⟩ := (callW_iff tbl).1 hp
            refine ⟨m, ?_⟩
            simp only [aop, hf, phiN, hm, Option.map_some]
            rw [← hq]
          · cases hq
        | callr f args =>
          rw [hop] at hq
          simp only [aop] at hq
          split at hq
          · rename_i fid caps hf
            obtain ⟨p, hp, hq⟩ := Option.map_eq_some_iff.1 hq
            obtain ⟨m, hm⟩ := (callW_iff tbl).1 hp
            refine ⟨m, ?_⟩
            simp only [aop, hf, phiN, hm, Option.map_some]
            rw [← hq]
          · cases hq
        | ocallc f args =>
          rw [hop] at hq
          simp only [aop] at hq
          split at hq
          · rename_i fid caps hf
            obtain ⟨m, hm⟩ := (callV_iff tbl).1 hq
            refine ⟨m, ?_⟩
            simp only [aop, hf, phiN, hm]
          · cases hq
        | ocall f args =>
          rw [hop] at hq
          simp only [aop] at hq
          split at hq
          · rename_i fid caps hf
            obtain ⟨m, hm⟩ := (callV_iff tbl).1 hq
            refine ⟨m, ?_⟩
            simp only [aop, hf, phiN, hm]
          · cases hq
        | _ => rw [hop] at hq; exact ⟨0, hq⟩
      obtain ⟨m, hm⟩ := hop
      refine ⟨max k m, ?_⟩
      simp only [runOps, hb, Option.bind_some, if_true]
      rw [aop_mono (phiN_le tbl (Nat.le_max_right k m)) hm]
      exact runOps_mono (phiN_le tbl (Nat.le_max_left k m)) l _ _ r hk

theorem exW_skip (e : Env) (H : List AO) : exW tbl .skip e H = some (.normal, e, H) := (exW_iff tbl).2 ⟨1, rfl⟩
theorem exW_ret (e : Env) (H : List AO) : exW tbl .ret e H = some (.ret, e, H) := (exW_iff tbl).2 ⟨1, rfl⟩
theorem exW_exit (id : Nat) (e : Env) (H : List AO) : exW tbl (.exit id) e H = some (.exit id, e, H) := (exW_iff tbl).2 ⟨1, rfl⟩

theorem exW_reg (d : Bool) (tags : List Nat) (ops : List IOper) (keep : List Nat) (e : Env) (H : List AO) : exW tbl (.reg d tags ops keep) e H = (runOps (phiW tbl) (if d then ops.map IOper.bare else ops) e (H ++ tags.map .rsv)).map fun r => (.normal, scrub keep r.1, r.2) := by
  apply opt_ext
  intro r
  rw [exW_iff]
  constructor
  · rintro ⟨k, hk⟩
    cases k with
    | zero => simp [exN] at hk
    | succ k =>
      simp only [exN] at hk
      obtain ⟨q, hq, hk⟩ := Option.map_eq_some_iff.1 hk
      have hle : PhiLe (phiN tbl k) (phiW tbl) := ⟨fun f args r hr => callW_of tbl hr, fun f args H r hr => callV_of tbl hr⟩
      rw [runOps_mono hle _ e _ q hq]
      simpa using hk
  · intro h
    obtain ⟨q, hq, h⟩ := Option.map_eq_some_iff.1 h
    obtain ⟨k, hk⟩ := runW_iff tbl _ e _ q hq
    refine ⟨k + 1, ?_⟩
    show (runOps (phiN tbl k) (if d then ops.map IOper.bare else ops) e (H ++ tags.map .rsv)).map (fun r => (Ex.normal, scrub keep r.1, r.2)) = some r
    rw [hk]; simpa using h

theorem runDTW_iff (keep : List Nat) : ∀ (t : DT) (e : Env) (H : List AO) (r : Env × List AO), runDT (phiW tbl) keep t e H = some r → ∃ k, runDT (phiN tbl k) keep t e H = some r
  | .nil, e, H, r, h => ⟨0, h⟩
  | .op o t, e, H, r, h => by
    simp only [runDT] at h
    obtain ⟨q, hq, h⟩ := Option.bind_eq_some_iff.1 h
    obtain ⟨k, hk⟩ := runW_iff tbl [o] _ _ q hq
    obtain ⟨m, hm⟩ := runDTW_iff keep t _ _ r h
    refine ⟨max k m, ?_⟩
    simp only [runDT]
    rw [runOps_mono (phiN_le tbl (Nat.le_max_left k m)) [o] _ _ q hk]
    exact runDT_mono (phiN_le tbl (Nat.le_max_right k m)) keep t _ _ r hm
  | .br a b, e, H, r, h => by
    simp only [runDT] at h
    obtain ⟨x, hx, h⟩ := Option.bind_eq_some_iff.1 h
    obtain ⟨y, hy, h⟩ := Option.bind_eq_some_iff.1 h
    obtain ⟨k, hk⟩ := runDTW_iff keep a _ _ x hx
    obtain ⟨m, hm⟩ := runDTW_iff keep b _ _ y hy
    refine ⟨max k m, ?_⟩
    simp only [runDT]
    rw [runDT_mono (phiN_le tbl (Nat.le_max_left k m)) keep a _ _ x hk]
    simp only [Option.bind_some]
    rw [runDT_mono (phiN_le tbl (Nat.le_max_right k m)) keep b _ _ y hm]
    exact h

theorem exW_rega (t : DT) (keep : List Nat) (e : Env) (H : List AO) : exW tbl (.rega t keep) e H = (runDT (phiW tbl) keep t e H).map fun r => (.normal, scrub keep r.1, r.2) := by
  apply opt_ext
  intro r
  rw [exW_iff]
  constructor
  · rintro ⟨k, hk⟩
    cases k with
    | zero => simp [exN] at hk
    | succ k =>
      simp only [exN] at hk
      obtain ⟨q, hq, hk⟩ := Option.map_eq_some_iff.1 hk
      have hle : PhiLe (phiN tbl k) (phiW tbl) := ⟨fun f args r hr => callW_of tbl hr, fun f args H r hr => callV_of tbl hr⟩
      rw [runDT_mono hle keep t e _ q hq]
      simpa using hk
  · intro h
    obtain ⟨q, hq, h⟩ := Option.map_eq_some_iff.1 h
    obtain ⟨k, hk⟩ := runDTW_iff tbl keep t e _ q hq
    refine ⟨k + 1, ?_⟩
    show (runDT (phiN tbl k) keep t e H).map (fun r => (Ex.normal, scrub keep r.1, r.2)) = some r
    rw [hk]; simpa using h

theorem exW_bad (e : Env) (H : List AO) : exW tbl .bad e H = none := by
  cases h : exW tbl .bad e H with
  | none => rfl
  | some r => obtain ⟨k, hk⟩ := (exW_iff tbl).1 h; cases k <;> simp [exN] at hk
theorem exW_scope (b : IC) (e : Env) (H : List AO) : exW tbl (.scope b) e H = exW tbl b e H := by
  apply opt_ext
  intro r
  rw [exW_iff, exW_iff]
  constructor
  · rintro ⟨k, hk⟩
    cases k with
    | zero => simp [exN] at hk
    | succ k => exact ⟨k, hk⟩
  · rintro ⟨k, hk⟩; exact ⟨k + 1, hk⟩

theorem exW_seq (a b : IC) (e : Env) (H : List AO) : exW tbl (.seq a b) e H = (exW tbl a e H).bind (thenEx fun e H => exW tbl b e H) := by
  apply opt_ext
  intro r
  rw [exW_iff]
  constructor
  · rintro ⟨k, hk⟩
    cases k with
    | zero => simp [exN] at hk
    | succ k =>
      simp only [exN] at hk
      obtain ⟨q, hq, hk⟩ := Option.bind_eq_some_iff.1 hk
      rw [(exW_iff tbl).2 ⟨k, hq⟩]
      simp only [Option.bind_some]
      obtain ⟨ex, e1, H1⟩ := q
      cases ex with
      | normal => exact (exW_iff tbl).2 ⟨k, hk⟩
      | ret => exact hk
      | exit id => exact hk
  · intro h
    obtain ⟨q, hq, h⟩ := Option.bind_eq_some_iff.1 h
    obtain ⟨k, hk⟩ := (exW_iff tbl).1 hq
    obtain ⟨ex, e1, H1⟩ := q
    cases ex with
    | normal =>
      obtain ⟨m, hm⟩ := (exW_iff tbl).1 h
      refine ⟨max k m + 1, ?_⟩
      simp only [exN]
      rw [exN_le tbl (Nat.le_max_left k m) hk]
      exact exN_le tbl (Nat.le_max_right k m) hm
    | ret => exact ⟨k + 1, by simp only [exN]; rw [hk]; exact h⟩
    | exit id => exact ⟨k + 1, by simp only [exN]; rw [hk]; exact h⟩

theorem exW_cond (c : OP) (a b : IC) (e : Env) (H : List AO) : exW tbl (.cond c a b) e H = onBool (c.ev e) (exW tbl a e H) (exW tbl b e H) := by
  apply opt_ext
  intro r
  rw [exW_iff]
  constructor
  · rintro ⟨k, hk⟩
    cases k with
    | zero => simp [exN] at hk
    | succ k =>
      simp only [exN, onBool] at hk
      unfold onBool
      split at hk
      · rename_i t ht
        cases t with
        | true => simp only [if_true] at hk ⊢; exact (exW_iff tbl).2 ⟨k, hk⟩
        | false => simp only [Bool.false_eq_true, if_false] at hk ⊢; exact (exW_iff tbl).2 ⟨k, hk⟩
      · cases hk
  · intro h
    unfold onBool at h
    split at h
    · rename_i t ht
      cases t with
      | true =>
        simp only [if_true] at h
        obtain ⟨k, hk⟩ := (exW_iff tbl).1 h
        exact ⟨k + 1, by simp only [exN, onBool, ht, if_true]; exact hk⟩
      | false =>
        simp only [Bool.false_eq_true, if_false] at h
        obtain ⟨k, hk⟩ := (exW_iff tbl).1 h
        exact ⟨k + 1, by simp only [exN, onBool, ht, Bool.false_eq_true, if_false]; exact hk⟩
    · cases h

theorem exW_block (id : Nat) (b : IC) (e : Env) (H : List AO) : exW tbl (.block id b) e H = (exW tbl b e H).map (outBlock id) := by
  apply opt_ext
  intro r
  rw [exW_iff]
  constructor
  · rintro ⟨k, hk⟩
    cases k with
    | zero => simp [exN] at hk
    | succ k =>
      simp only [exN] at hk
      obtain ⟨q, hq, hk⟩ := Option.map_eq_some_iff.1 hk
      rw [(exW_iff tbl).2 ⟨k, hq⟩]
      simpa using hk
  · intro h
    obtain ⟨q, hq, h⟩ := Option.map_eq_some_iff.1 h
    obtain ⟨k, hk⟩ := (exW_iff tbl).1 hq
    exact ⟨k + 1, by simp only [exN]; rw [hk]; simpa using h⟩

theorem exW_loop (keep : List Nat) (b : IC) (e : Env) (H : List AO) : exW tbl (.loop keep b) e H = (exW tbl b (scrub keep e) H).bind (thenEx fun e H => exW tbl (.loop keep b) e H) := by
  apply opt_ext
  intro r
  rw [exW_iff]
  constructor
  · rintro ⟨k, hk⟩
    cases k with
    | zero => simp [exN] at hk
    | succ k =>
      simp only [exN] at hk
      obtain ⟨q, hq, hk⟩ := Option.bind_eq_some_iff.1 hk
      rw [(exW_iff tbl).2 ⟨k, hq⟩]
      simp only [Option.bind_some]
      obtain ⟨ex, e1, H1⟩ := q
      cases ex with
      | normal => exact (exW_iff tbl).2 ⟨k, hk⟩
      | ret => exact hk
      | exit id => exact hk
  · intro h
    obtain ⟨q, hq, h⟩ := Option.bind_eq_some_iff.1 h
    obtain ⟨k, hk⟩ := (exW_iff tbl).1 hq
    obtain ⟨ex, e1, H1⟩ := q
    cases ex with
    | normal =>
      obtain ⟨m, hm⟩ := (exW_iff tbl).1 h
      refine ⟨max k m + 1, ?_⟩
      simp only [exN]
      rw [exN_le tbl (Nat.le_max_left k m) hk]
      exact exN_le tbl (Nat.le_max_right k m) hm
    | ret => exact ⟨k + 1, by simp only [exN]; rw [hk]; exact h⟩
    | exit id => exact ⟨k + 1, by simp only [exN]; rw [hk]; exact h⟩

end

theorem callW_sound {P : Program} {C : Cfg} {tbl : TB} (hm : P.follows .mixedOrders = true) (ht : TBok P C tbl) {f : Nat} {args : List AV} {res : AV} {rows : List AO} (h : callW tbl f args = some (res, rows)) : FnOk C P f args res rows := by
  obtain ⟨k, hk⟩ := (callW_iff tbl).1 h
  exact callN_sound hm ht hk

end Go.PI
