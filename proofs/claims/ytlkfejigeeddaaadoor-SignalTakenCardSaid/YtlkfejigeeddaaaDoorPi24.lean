/- The rules by which simp runs the interpreter; numbers; rounds of a loop. No condition. -/
import Derived.Test.YtlkfejigeeddaaaDoorPi23
namespace Go.PI

/- one step at a time: what comes behind a step is looked at only when the step has given its value -/
noncomputable def stp (φ : Phi) (d : Option Nat) (l : Option (List Nat)) (r : List IOper) (e : Env) : Option (AV × List AO) → Option (Env × List AO)
  | some x => runOps φ r (scr l (e.put d x.1)) x.2
  | none => none
theorem stp_some (φ : Phi) (d : Option Nat) (l : Option (List Nat)) (r : List IOper) (e : Env) (x : AV × List AO) : stp φ d l r e (some x) = runOps φ r (scr l (e.put d x.1)) x.2 := rfl
theorem stp_none (φ : Phi) (d : Option Nat) (l : Option (List Nat)) (r : List IOper) (e : Env) : stp φ d l r e none = none := rfl
theorem stp_ite (φ : Phi) (d : Option Nat) (l : Option (List Nat)) (r : List IOper) (e : Env) (c : Prop) [Decidable c] (x y : Option (AV × List AO)) : stp φ d l r e (if c then x else y) = if c then stp φ d l r e x else stp φ d l r e y := by split <;> rfl
theorem runOps_stp (φ : Phi) (d : Option Nat) (op : IOp) (l : Option (List Nat)) (r : List IOper) (e : Env) (H : List AO) : runOps φ (⟨d, op, none, l⟩ :: r) e H = stp φ d l r e (aop φ op e H) := by
  cases l with
  | none => rw [runOps_op]; cases aop φ op e H <;> rfl
  | some l => rw [runOps_opL]; cases aop φ op e H <;> rfl
/- guards -/
noncomputable def gdK (φ : Phi) (d : Option Nat) (op : IOp) (w : Bool) (l : Option (List Nat)) (r : List IOper) (e : Env) (H : List AO) : AV → Option (Env × List AO)
  | .bool b => if b = w then runOps φ (⟨d, op, none, l⟩ :: r) e H else runOps φ r (scr l (e.put d (.tup []))) H
  | .tup [] => runOps φ r (scr l (e.put d (.tup []))) H
  | _ => none
theorem gdK_bool (φ : Phi) (d : Option Nat) (op : IOp) (w : Bool) (l : Option (List Nat)) (r : List IOper) (e : Env) (H : List AO) (b : Bool) : gdK φ d op w l r e H (.bool b) = if b = w then runOps φ (⟨d, op, none, l⟩ :: r) e H else runOps φ r (scr l (e.put d (.tup []))) H := rfl
theorem gdK_tup (φ : Phi) (d : Option Nat) (op : IOp) (w : Bool) (l : Option (List Nat)) (r : List IOper) (e : Env) (H : List AO) : gdK φ d op w l r e H (.tup []) = runOps φ r (scr l (e.put d (.tup []))) H := rfl
theorem runOps_gd (φ : Phi) (d : Option Nat) (op : IOp) (s : Nat) (w : Bool) (l : Option (List Nat)) (r : List IOper) (e : Env) (H : List AO) :
    runOps φ (⟨d, op, some (s, w), l⟩ :: r) e H = gdK φ d op w l r e H (e.get s) := by
  rw [runOps_guard, wantedA_some]
  cases e.get s with
  | bool b => cases b <;> cases w <;> rfl
  | tup vs => cases vs <;> rfl
  | _ => rfl
noncomputable def cndK (tbl : TB) (fin : Fin) (K : List Fr) (a b : IC) (e : Env) (H : List AO) : AV → Option (AV × List AO)
  | .bool t => if t = true then run tbl fin K a e H else run tbl fin K b e H
  | _ => none
theorem cndK_bool (tbl : TB) (fin : Fin) (K : List Fr) (a b : IC) (e : Env) (H : List AO) (t : Bool) : cndK tbl fin K a b e H (.bool t) = if t = true then run tbl fin K a e H else run tbl fin K b e H := rfl
theorem run_condM (tbl : TB) (fin : Fin) (K : List Fr) (c : OP) (a b : IC) (e : Env) (H : List AO) : run tbl fin K (.cond c a b) e H = cndK tbl fin K a b e H (c.ev e) := by
  rw [run_cond]; rfl
noncomputable def bkK (tbl : TB) (fin : Fin) (K : List Fr) (keep : List Nat) : Option (Env × List AO) → Option (AV × List AO)
  | some r => back tbl fin K (scrub keep r.1) r.2
  | none => none
theorem bkK_some (tbl : TB) (fin : Fin) (K : List Fr) (keep : List Nat) (r : Env × List AO) : bkK tbl fin K keep (some r) = back tbl fin K (scrub keep r.1) r.2 := rfl
theorem bkK_none (tbl : TB) (fin : Fin) (K : List Fr) (keep : List Nat) : bkK tbl fin K keep none = none := rfl
theorem bkK_ite (tbl : TB) (fin : Fin) (K : List Fr) (keep : List Nat) (c : Prop) [Decidable c] (x y : Option (Env × List AO)) : bkK tbl fin K keep (if c then x else y) = if c then bkK tbl fin K keep x else bkK tbl fin K keep y := by split <;> rfl
theorem regK_nilB (tbl : TB) (fin : Fin) (K : List Fr) (ops : List IOper) (keep : List Nat) (e : Env) (H : List AO) : regK tbl fin K [] ops keep e H = bkK tbl fin K keep (runOps (phiW tbl) ops e H) := by
  rw [regK_nil]; cases runOps (phiW tbl) ops e H <;> rfl
theorem regK_consB (tbl : TB) (fin : Fin) (K : List Fr) (t : Nat) (tags : List Nat) (ops : List IOper) (keep : List Nat) (e : Env) (H : List AO) : regK tbl fin K (t :: tags) ops keep e H = bkK tbl fin K keep (runOps (phiW tbl) ops e (H ++ (t :: tags).map .rsv)) := by
  rw [regK_cons]; cases runOps (phiW tbl) ops e (H ++ (t :: tags).map .rsv) <;> rfl

theorem bind_ite {α β : Type} (c : Prop) [Decidable c] (x y : Option α) (f : α → Option β) : (if c then x else y).bind f = if c then x.bind f else y.bind f := by split <;> rfl
theorem phiW_cl (tbl : TB) : (phiW tbl).cl = callW tbl := rfl
theorem phiW_op (tbl : TB) : (phiW tbl).op = callV tbl := rfl
theorem res_cl (rs : List IRes) (e : Env) (H : List AO) : (Fin.cl rs).res e H = retVal e H rs := rfl
theorem res_op (rs : List IRes) (e : Env) (H : List AO) : (Fin.op rs).res e H = (resVals e H rs).map fun vs => (packV vs, H) := rfl

theorem aop_pick (φ : Phi) (c a b : OP) (e : Env) (H : List AO) : aop φ (.pick c a b) e H = match c.ev e with
    | .bool t => some (if t = true then a.ev e else b.ev e, H)
    | _ => none := rfl

attribute [simp] runOps_nil runOps_stp stp_some stp_none stp_ite scr runOps_gd gdK_bool gdK_tup cndK_bool bkK_some bkK_none bkK_ite phiW_cl phiW_op res_cl res_op run_seq run_skip run_exit run_ret regK_nilB regK_consB run_condM run_block back_lp run_scope back_nil back_seq back_blk leave_seq leave_lp leave_blk
  aop OP.ev Env.get Env.put scrub bindArgs elems alen part pelem aload rdRow conv0 conv1 refs0 refs1 frz shift0 shift1 shift2 scal okCells lone spl splice astore fillParts fillRow rowRefs aapp aint astr abin ceq ceqs aun natOf bnds aslc aidx afld achk plain plainR plainE resVals retVal exp0 expL exp1 expV AV.cells
  mgetD bytesOf rsvIdx aeqnil wrow isE fillPl bnd1 packV maxRow

/- numbers -/
@[simp] theorem wrap64 (n : Int) (h1 : -9223372036854775808 ≤ n) (h2 : n ≤ 9223372036854775807) : IntKind.i64.wrap n = n := by
  unfold IntKind.wrap
  simp [IntKind.bits, IntKind.signed]
  omega

theorem wrapS (i : Nat) (h : i < 9223372036854775807) : IntKind.i64.wrap ((i : Int) + 1) = ((i + 1 : Nat) : Int) := by
  rw [wrap64 _ (by omega) (by omega)]; omega

end Go.PI
