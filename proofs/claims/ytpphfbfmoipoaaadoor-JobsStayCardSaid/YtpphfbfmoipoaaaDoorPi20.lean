/- The interpreter as a machine with a stack of what is left to do: the equations that simp follows. No condition. -/
import Derived.Test.YtpphfbfmoipoaaaDoorPi19
namespace Go.PI

theorem runOps_nil (φ : Phi) (e : Env) (H : List AO) : runOps φ [] e H = some (e, H) := rfl
theorem runOps_op (φ : Phi) (d : Option Nat) (op : IOp) (r : List IOper) (e : Env) (H : List AO) :
    runOps φ (⟨d, op, none, none⟩ :: r) e H = match aop φ op e H with
      | some x => runOps φ r (e.put d x.1) x.2
      | none => none := by
  simp only [runOps, wantedA, Option.bind_some, if_true]
  cases aop φ op e H <;> rfl
theorem runOps_opL (φ : Phi) (d : Option Nat) (op : IOp) (l : List Nat) (r : List IOper) (e : Env) (H : List AO) :
    runOps φ (⟨d, op, none, some l⟩ :: r) e H = match aop φ op e H with
      | some x => runOps φ r (scrub l (e.put d x.1)) x.2
      | none => none := by
  simp only [runOps, wantedA, Option.bind_some, if_true]
  cases aop φ op e H <;> rfl
theorem runOps_guard (φ : Phi) (d : Option Nat) (op : IOp) (s : Nat) (b : Bool) (l : Option (List Nat)) (r : List IOper) (e : Env) (H : List AO) :
    runOps φ (⟨d, op, some (s, b), l⟩ :: r) e H = match wantedA e (some (s, b)) with
      | some true => runOps φ (⟨d, op, none, l⟩ :: r) e H
      | some false => runOps φ r (scr l (e.put d (.tup []))) H
      | none => none := by
  simp only [runOps, Option.bind_some]
  cases wantedA e (some (s, b)) with
  | none => rfl
  | some t => cases t <;> rfl
theorem wantedA_some (e : Env) (s : Nat) (w : Bool) : wantedA e (some (s, w)) = match e.get s with
      | .bool b => some (b == w)
      | .tup [] => some false
      | _ => none := rfl

/-- what is left to do behind a piece of code -/
inductive Fr where
  | seq (b : IC)
  | blk (id : Nat)
  | lp (keep : List Nat) (b : IC)

/-- how a function ends: its results, exported (a frame of its own), or as they are (the caller's frame) -/
inductive Fin where
  | cl (rs : List IRes)
  | op (rs : List IRes)

def Fin.res : Fin → Env → List AO → Option (AV × List AO)
  | .cl rs, e, H => retVal e H rs
  | .op rs, e, H => (resVals e H rs).map fun vs => (packV vs, H)

section
variable (tbl : TB) (fin : Fin)

noncomputable def goK : List Fr → Ex × Env × List AO → Option (AV × List AO)
  | [], r => match r.1 with
    | .exit _ => none
    | _ => fin.res r.2.1 r.2.2
  | .seq b :: K, r => match r.1 with
    | .normal => (exW tbl b r.2.1 r.2.2).bind (goK K)
    | _ => goK K r
  | .blk id :: K, r => goK K (outBlock id r)
  | .lp keep b :: K, r => match r.1 with
    | .normal => (exW tbl (.loop keep b) r.2.1 r.2.2).bind (goK K)
    | _ => goK K r

/-- run the code, then the rest -/
noncomputable def run (K : List Fr) (c : IC) (e : Env) (H : List AO) : Option (AV × List AO) := (exW tbl c e H).bind (goK tbl fin K)
/-- the rest -/
noncomputable def back (K : List Fr) (e : Env) (H : List AO) : Option (AV × List AO) := goK tbl fin K (.normal, e, H)
/-- leave a block -/
noncomputable def leave (K : List Fr) (id : Nat) (e : Env) (H : List AO) : Option (AV × List AO) := goK tbl fin K (.exit id, e, H)

def condB {α : Type} (v : AV) (x y : Option α) : Option α :=
  match v with
  | .bool b => if b = true then x else y
  | _ => none
theorem condB_bool {α : Type} (b : Bool) (x y : Option α) : condB (.bool b) x y = if b = true then x else y := rfl

theorem run_seq (K : List Fr) (a b : IC) (e : Env) (H : List AO) : run tbl fin K (.seq a b) e H = run tbl fin (.seq b :: K) a e H := by
  unfold run
  rw [exW_seq]
  cases exW tbl a e H with
  | none => rfl
  | some r => obtain ⟨ex, e1, H1⟩ := r; cases ex <;> rfl
theorem run_skip (K : List Fr) (e : Env) (H : List AO) : run tbl fin K .skip e H = back tbl fin K e H := by unfold run back; rw [exW_skip]; rfl
theorem run_exit (K : List Fr) (id : Nat) (e : Env) (H : List AO) : run tbl fin K (.exit id) e H = leave tbl fin K id e H := by unfold run leave; rw [exW_exit]; rfl
theorem goK_ret : ∀ (K : List Fr) (e : Env) (H : List AO), goK tbl fin K (.ret, e, H) = fin.res e H
  | [], _, _ => rfl
  | .seq _ :: K, e, H => goK_ret K e H
  | .blk _ :: K, e, H => goK_ret K e H
  | .lp _ _ :: K, e, H => goK_ret K e H
theorem run_ret (K : List Fr) (e : Env) (H : List AO) : run tbl fin K .ret e H = fin.res e H := by unfold run; rw [exW_ret]; exact goK_ret tbl fin K e H
/-- a region, then the rest -/
noncomputable def regK (K : List Fr) (tags : List Nat) (ops : List IOper) (keep : List Nat) (e : Env) (H : List AO) : Option (AV × List AO) :=
  match runOps (phiW tbl) ops e (H ++ tags.map .rsv) with
  | some r => back tbl fin K (scrub keep r.1) r.2
  | none => none
theorem run_regK (K : List Fr) (d : Bool) (tags : List Nat) (ops : List IOper) (keep : List Nat) (e : Env) (H : List AO) (h : (if d then ops.map IOper.bare else ops) = ops) : run tbl fin K (.reg d tags ops keep) e H = regK tbl fin K tags ops keep e H := by
  unfold run regK
  rw [exW_reg, h]
  cases runOps (phiW tbl) ops e (H ++ tags.map .rsv) <;> rfl
theorem regK_nil (K : List Fr) (ops : List IOper) (keep : List Nat) (e : Env) (H : List AO) : regK tbl fin K [] ops keep e H = match runOps (phiW tbl) ops e H with
      | some r => back tbl fin K (scrub keep r.1) r.2
      | none => none := by
  unfold regK
  simp only [List.map_nil, List.append_nil]
theorem regK_cons (K : List Fr) (t : Nat) (tags : List Nat) (ops : List IOper) (keep : List Nat) (e : Env) (H : List AO) : regK tbl fin K (t :: tags) ops keep e H = match runOps (phiW tbl) ops e (H ++ (t :: tags).map .rsv) with
      | some r => back tbl fin K (scrub keep r.1) r.2
      | none => none := rfl
/-- a region of which every order is tried, then the rest -/
noncomputable def regA (K : List Fr) (t : DT) (keep : List Nat) (e : Env) (H : List AO) : Option (AV × List AO) :=
  match runDT (phiW tbl) keep t e H with
  | some r => back tbl fin K (scrub keep r.1) r.2
  | none => none
theorem run_regA (K : List Fr) (t : DT) (keep : List Nat) (e : Env) (H : List AO) : run tbl fin K (.rega t keep) e H = regA tbl fin K t keep e H := by
  unfold run regA
  rw [exW_rega]
  cases runDT (phiW tbl) keep t e H <;> rfl
/-- one round of a loop, the body written out -/
theorem run_loopD {b b' : IC} (h : b = b') (K : List Fr) (keep : List Nat) (e : Env) (H : List AO) : run tbl fin K (.loop keep b) e H = run tbl fin (.lp keep b :: K) b' (scrub keep e) H := by
  subst h
  unfold run
  rw [exW_loop]
  cases exW tbl b (scrub keep e) H with
  | none => rfl
  | some r => obtain ⟨ex, e1, H1⟩ := r; cases ex <;> rfl
theorem run_scope (K : List Fr) (b : IC) (e : Env) (H : List AO) : run tbl fin K (.scope b) e H = run tbl fin K b e H := by unfold run; rw [exW_scope]
theorem run_bad (K : List Fr) (e : Env) (H : List AO) : run tbl fin K .bad e H = none := by unfold run; rw [exW_bad]; rfl
theorem run_cond (K : List Fr) (c : OP) (a b : IC) (e : Env) (H : List AO) : run tbl fin K (.cond c a b) e H = condB (c.ev e) (run tbl fin K a e H) (run tbl fin K b e H) := by
  unfold run
  rw [exW_cond]
  unfold condB onBool
  cases c.ev e with
  | bool t => cases t <;> rfl
  | _ => rfl
theorem run_block (K : List Fr) (id : Nat) (b : IC) (e : Env) (H : List AO) : run tbl fin K (.block id b) e H = run tbl fin (.blk id :: K) b e H := by
  unfold run
  rw [exW_block]
  cases exW tbl b e H <;> rfl
/-- one round of a loop -/
theorem run_loop (K : List Fr) (keep : List Nat) (b : IC) (e : Env) (H : List AO) : run tbl fin K (.loop keep b) e H = run tbl fin (.lp keep b :: K) b (scrub keep e) H := by
  unfold run
  rw [exW_loop]
  cases exW tbl b (scrub keep e) H with
  | none => rfl
  | some r => obtain ⟨ex, e1, H1⟩ := r; cases ex <;> rfl
theorem back_nil (e : Env) (H : List AO) : back tbl fin [] e H = fin.res e H := rfl
theorem back_seq (K : List Fr) (b : IC) (e : Env) (H : List AO) : back tbl fin (.seq b :: K) e H = run tbl fin K b e H := rfl
theorem back_blk (K : List Fr) (id : Nat) (e : Env) (H : List AO) : back tbl fin (.blk id :: K) e H = back tbl fin K e H := rfl
theorem back_lp (K : List Fr) (keep : List Nat) (b : IC) (e : Env) (H : List AO) : back tbl fin (.lp keep b :: K) e H = run tbl fin K (.loop keep b) e H := rfl
theorem leave_seq (K : List Fr) (b : IC) (id : Nat) (e : Env) (H : List AO) : leave tbl fin (.seq b :: K) id e H = leave tbl fin K id e H := rfl
theorem leave_lp (K : List Fr) (keep : List Nat) (b : IC) (id : Nat) (e : Env) (H : List AO) : leave tbl fin (.lp keep b :: K) id e H = leave tbl fin K id e H := rfl
theorem leave_blk (K : List Fr) (i id : Nat) (e : Env) (H : List AO) : leave tbl fin (.blk i :: K) id e H = if id = i then back tbl fin K e H else leave tbl fin K id e H := by
  show goK tbl fin K (if id = i then (.normal, e, H) else (.exit id, e, H)) = _
  split <;> rfl
/-- a loop's head: the environment is what the loop keeps -/
theorem run_loop_scrub (K : List Fr) (keep : List Nat) (b : IC) (e : Env) (H : List AO) (h : scrub keep (scrub keep e) = scrub keep e) : run tbl fin K (.loop keep b) e H = run tbl fin K (.loop keep b) (scrub keep e) H := by
  rw [run_loop, run_loop, h]
end

section
variable (tbl : TB)
theorem call_run {f : Nat} {fn : IFn} (h : tbl.fn f = some fn) (args : List AV) (hn : args.length = fn.np) : callW tbl f args = run tbl (.cl fn.res) [] fn.body (bindArgs 0 args) [] := by
  rw [callW_eq, h]
  simp only [if_pos hn]
  unfold run
  cases exW tbl fn.body (bindArgs 0 args) [] with
  | none => rfl
  | some r => obtain ⟨ex, e1, H1⟩ := r; cases ex <;> rfl
theorem callV_run {f : Nat} {fn : IFn} (h : tbl.fn f = some fn) (args : List AV) (H : List AO) (hn : args.length = fn.np) : callV tbl f args H = run tbl (.op fn.res) [] fn.body (bindArgs 0 args) H := by
  rw [callV_eq, h]
  simp only [Option.bind_some, if_pos hn]
  unfold run
  cases exW tbl fn.body (bindArgs 0 args) H with
  | none => rfl
  | some r => obtain ⟨ex, e1, H1⟩ := r; cases ex <;> rfl
theorem callV_ext {f : Nat} (h : tbl.fn f = none) (args : List AV) (H : List AO) : callV tbl f args H = tbl.extO f args H := by rw [callV_eq, h]
theorem call_ext {f : Nat} (h : tbl.fn f = none) (args : List AV) : callW tbl f args = tbl.ext f args := by rw [callW_eq, h]
end
end Go.PI
