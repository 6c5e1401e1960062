/- The equations by which a call is evaluated, in the form that simp follows. No condition. -/
import Derived.Test.YtedaefjmclkifaaPi19
namespace Go.PI

theorem runOps_nil (φ : Nat → List AV → Option (AV × List AO)) (e : Env) (H : List AO) : runOps φ [] e H = some (e, H) := rfl
theorem runOps_op (φ : Nat → List AV → Option (AV × List AO)) (d : Option Nat) (op : IOp) (r : List IOper) (e : Env) (H : List AO) :
    runOps φ (⟨d, op, none⟩ :: r) e H = match aop φ op e H with
      | some x => runOps φ r (e.put d x.1) x.2
      | none => none := by
  simp only [runOps, wantedA, Option.bind_some, if_true]
  cases aop φ op e H <;> rfl
theorem runOps_guard (φ : Nat → List AV → Option (AV × List AO)) (d : Option Nat) (op : IOp) (s : Nat) (b : Bool) (r : List IOper) (e : Env) (H : List AO) :
    runOps φ (⟨d, op, some (s, b)⟩ :: r) e H = match wantedA e (some (s, b)) with
      | some true => runOps φ (⟨d, op, none⟩ :: r) e H
      | some false => runOps φ r (e.put d (.tup [])) H
      | none => none := by
  simp only [runOps, Option.bind_some]
  cases wantedA e (some (s, b)) with
  | none => rfl
  | some t => cases t <;> rfl

section
variable (tbl : Nat → Option IFn)
theorem ex_reg (d : Bool) (ops : List IOper) (keep : List Nat) (e : Env) (H : List AO) : exW tbl (.reg d ops keep) e H = match runOps (callW tbl) ops e H with
      | some r => some (.normal, scrub keep r.1, r.2)
      | none => none := by
  rw [exW_reg]; cases runOps (callW tbl) ops e H <;> rfl
theorem ex_seq (a b : IC) (e : Env) (H : List AO) : exW tbl (.seq a b) e H = match exW tbl a e H with
      | some (.normal, e1, H1) => exW tbl b e1 H1
      | some (.ret, e1, H1) => some (.ret, e1, H1)
      | some (.exit id, e1, H1) => some (.exit id, e1, H1)
      | none => none := by
  rw [exW_seq]
  cases exW tbl a e H with
  | none => rfl
  | some r => obtain ⟨ex, e1, H1⟩ := r; cases ex <;> rfl
theorem ex_cond (c : OP) (a b : IC) (e : Env) (H : List AO) : exW tbl (.cond c a b) e H = match c.ev e with
      | .bool true => exW tbl a e H
      | .bool false => exW tbl b e H
      | _ => none := by
  rw [exW_cond]
  cases c.ev e with
  | bool t => cases t <;> rfl
  | _ => rfl
theorem ex_block (id : Nat) (b : IC) (e : Env) (H : List AO) : exW tbl (.block id b) e H = match exW tbl b e H with
      | some r => some (outBlock id r)
      | none => none := by
  rw [exW_block]; cases exW tbl b e H <;> rfl
theorem ex_loop (keep : List Nat) (b : IC) (e : Env) (H : List AO) : exW tbl (.loop keep b) e H = match exW tbl b (scrub keep e) H with
      | some (.normal, e1, H1) => exW tbl (.loop keep b) e1 H1
      | some (.ret, e1, H1) => some (.ret, e1, H1)
      | some (.exit id, e1, H1) => some (.exit id, e1, H1)
      | none => none := by
  rw [exW_loop]
  cases exW tbl b (scrub keep e) H with
  | none => rfl
  | some r => obtain ⟨ex, e1, H1⟩ := r; cases ex <;> rfl
/-- a call, once its function is known -/
theorem call_eq {f : Nat} {fn : IFn} (h : tbl f = some fn) (args : List AV) (hn : args.length = fn.np) : callW tbl f args = match exW tbl fn.body (bindArgs 0 args) [] with
      | some r => finish fn.res r
      | none => none := by
  rw [callW_eq, h]
  simp only [Option.bind_some, if_pos hn]
  cases exW tbl fn.body (bindArgs 0 args) [] <;> rfl
end
theorem wantedA_some (e : Env) (s : Nat) (w : Bool) : wantedA e (some (s, w)) = match e.get s with
      | .bool b => some (b == w)
      | .tup [] => some false
      | _ => none := rfl
theorem outBlock_normal (id : Nat) (x : Env × List AO) : outBlock id (.normal, x) = (.normal, x) := rfl
theorem outBlock_ret (id : Nat) (x : Env × List AO) : outBlock id (.ret, x) = (.ret, x) := rfl
theorem outBlock_exit (id i : Nat) (x : Env × List AO) : outBlock id (.exit i, x) = if i = id then (.normal, x) else (.exit i, x) := rfl
theorem finish_normal (rs : List IRes) (e : Env) (H : List AO) : finish rs (.normal, e, H) = retVal e H rs := rfl
theorem finish_ret (rs : List IRes) (e : Env) (H : List AO) : finish rs (.ret, e, H) = retVal e H rs := rfl
end Go.PI
