/- The rules by which simp runs the interpreter; numbers; rounds of a loop. No condition. -/
import Derived.Test.YtpphfbfmoipoaaaDoorPi23
namespace Go.PI

/- one step at a time: what comes behind a step is looked at only when the step has given its value -/
noncomputable def stp (φ : Phi) (d : Option Nat) (l : Option (List Nat)) (r : List IOper) (e : Env) : Option (AV × List AO) → Option (Env × List AO)
  | some x => runOps φ r (scr l (e.put d x.1)) x.2
  | none => none
theorem stp_some (φ : Phi) (d : Option Nat) (l : Option (List Nat)) (r : List IOper) (e : Env) (x : AV × List AO) : stp φ d l r e (some x) = runOps φ r (scr l (e.put d x.1)) x.2 := rfl
theorem stp_none (φ : Phi) (d : Option Nat) (l : Option (List Nat)) (r : List IOper) (e : Env) : stp φ d l r e none = none := rfl
theorem stp_ite (φ : Phi) (d : Option Nat) (l : Option (List Nat)) (r : List IOper) (e : Env) (c : Prop) [Decidable c] (x y : Option (AV × List AO)) : stp φ d l r e (if c then x else y) = if c then stp φ d l r e x else stp φ d l r e y := by split <;> rfl
theorem runOps_stp (φ : Phi) (d : Option Nat) (op : IOp) (l : Option (List Nat)) (r : List IOper) (e : Env) (H : List AO) : runOps φ (⟨d, op, none, l⟩ :: r) e H = stp φ d l r e (aop φ op e H) := by
  cases l with
  | none => rw [runOps_op]; cases aop φ op e H <;> rfl
  | some l => rw [runOps_opL]; cases aop φ op e H <;> rfl
/- guards -/
noncomputable def gdK (φ : Phi) (d : Option Nat) (op : IOp) (w : Bool) (l : Option (List Nat)) (r : List IOper) (e : Env) (H : List AO) : AV → Option (Env × List AO)
  | .bool b => if b = w then runOps φ (⟨d, op, none, l⟩ :: r) e H else runOps φ r (scr l (e.put d (.tup []))) H
  | .tup [] => runOps φ r (scr l (e.put d (.tup []))) H
  | _ => none
theorem gdK_bool (φ : Phi) (d : Option Nat) (op : IOp) (w : Bool) (l : Option (List Nat)) (r : List IOper) (e : Env) (H : List AO) (b : Bool) : gdK φ d op w l r e H (.bool b) = if b = w then runOps φ (⟨d, op, none, l⟩ :: r) e H else runOps φ r (scr l (e.put d (.tup []))) H := rfl
theorem gdK_tup (φ : Phi) (d : Option Nat) (op : IOp) (w : Bool) (l : Option (List Nat)) (r : List IOper) (e : Env) (H : List AO) : gdK φ d op w l r e H (.tup []) = runOps φ r (scr l (e.put d (.tup []))) H := rfl
theorem runOps_gd (φ : Phi) (d : Option Nat) (op : IOp) (s : Nat) (w : Bool) (l : Option (List Nat)) (r : List IOper) (e : Env) (H : List AO) :
    runOps φ (⟨d, op, some (s, w), l⟩ :: r) e H = gdK φ d op w l r e H (e.get s) := by
  rw [runOps_guard, wantedA_some]
  cases e.get s with
  | bool b => cases b <;> cases w <;> rfl
  | tup vs => cases vs <;> rfl
  | _ => rfl
noncomputable def cndK (tbl : TB) (fin : Fin) (K : List Fr) (a b : IC) (e : Env) (H : List AO) : AV → Option (AV × List AO)
  | .bool t => if t = true then run tbl fin K a e H else run tbl fin K b e H
  | _ => none
theorem cndK_bool (tbl : TB) (fin : Fin) (K : List Fr) (a b : IC) (e : Env) (H : List AO) (t : Bool) : cndK tbl fin K a b e H (.bool t) = if t = true then run tbl fin K a e H else run tbl fin K b e H := rfl
theorem run_condM (tbl : TB) (fin : Fin) (K : List Fr) (c : OP) (a b : IC) (e : Env) (H : List AO) : run tbl fin K (.cond c a b) e H = cndK tbl fin K a b e H (c.ev e) := by
  rw [run_cond]; rfl
noncomputable def bkK (tbl : TB) (fin : Fin) (K : List Fr) (keep : List Nat) : Option (Env × List AO) → Option (AV × List AO)
  | some r => back tbl fin K (scrub keep r.1) r.2
  | none => none
theorem bkK_some (tbl : TB) (fin : Fin) (K : List Fr) (keep : List Nat) (r : Env × List AO) : bkK tbl fin K keep (some r) = back tbl fin K (scrub keep r.1) r.2 := rfl
theorem bkK_none (tbl : TB) (fin : Fin) (K : List Fr) (keep : List Nat) : bkK tbl fin K keep none = none := rfl
theorem bkK_ite (tbl : TB) (fin : Fin) (K : List Fr) (keep : List Nat) (c : Prop) [Decidable c] (x y : Option (Env × List AO)) : bkK tbl fin K keep (if c then x else y) = if c then bkK tbl fin K keep x else bkK tbl fin K keep y := by split <;> rfl
theorem regK_nilB (tbl : TB) (fin : Fin) (K : List Fr) (ops : List IOper) (keep : List Nat) (e : Env) (H : List AO) : regK tbl fin K [] ops keep e H = bkK tbl fin K keep (runOps (phiW tbl) ops e H) := by
  rw [regK_nil]; cases runOps (phiW tbl) ops e H <;> rfl
theorem regK_consB (tbl : TB) (fin : Fin) (K : List Fr) (t : Nat) (tags : List Nat) (ops : List IOper) (keep : List Nat) (e : Env) (H : List AO) : regK tbl fin K (t :: tags) ops keep e H = bkK tbl fin K keep (runOps (phiW tbl) ops e (H ++ (t :: tags).map .rsv)) := by
  rw [regK_cons]; cases runOps (phiW tbl) ops e (H ++ (t :: tags).map .rsv) <;> rfl

theorem regA_B (tbl : TB) (fin : Fin) (K : List Fr) (t : DT) (keep : List Nat) (e : Env) (H : List AO) : regA tbl fin K t keep e H = bkK tbl fin K keep (runDT (phiW tbl) keep t e H) := by
  unfold regA; cases runDT (phiW tbl) keep t e H <;> rfl
noncomputable def dtK (φ : Phi) (keep : List Nat) (t : DT) : Option (Env × List AO) → Option (Env × List AO)
  | some x => runDT φ keep t x.1 x.2
  | none => none
theorem dtK_some (φ : Phi) (keep : List Nat) (t : DT) (x : Env × List AO) : dtK φ keep t (some x) = runDT φ keep t x.1 x.2 := rfl
theorem dtK_none (φ : Phi) (keep : List Nat) (t : DT) : dtK φ keep t none = none := rfl
theorem dtK_ite (φ : Phi) (keep : List Nat) (t : DT) (c : Prop) [Decidable c] (x y : Option (Env × List AO)) : dtK φ keep t (if c then x else y) = if c then dtK φ keep t x else dtK φ keep t y := by split <;> rfl
theorem runDT_nilS (φ : Phi) (keep : List Nat) (e : Env) (H : List AO) : runDT φ keep .nil e H = some (e, H) := rfl
theorem runDT_opS (φ : Phi) (keep : List Nat) (o : IOper) (t : DT) (e : Env) (H : List AO) : runDT φ keep (.op o t) e H = dtK φ keep t (runOps φ [o] e H) := by
  simp only [runDT]; cases runOps φ [o] e H <;> rfl
noncomputable def brK (keep : List Nat) : Option (Env × List AO) → Option (Env × List AO) → Option (Env × List AO)
  | some x, some y => if agree keep x y = true then some x else none
  | _, _ => none
theorem brK_some (keep : List Nat) (x y : Env × List AO) : brK keep (some x) (some y) = if agree keep x y = true then some x else none := rfl
theorem runDT_brS (φ : Phi) (keep : List Nat) (a b : DT) (e : Env) (H : List AO) : runDT φ keep (.br a b) e H = brK keep (runDT φ keep a e H) (runDT φ keep b e H) := by
  simp only [runDT]; cases runDT φ keep a e H <;> cases runDT φ keep b e H <;> rfl
theorem agree_mk (keep : List Nat) (e e' : Env) (H H' : List AO) : agree keep (e, H) (e', H') = ((keep.all fun d => AV.beq (e.get d) (e'.get d)) && AO.beqL H H') := rfl

theorem bind_ite {α β : Type} (c : Prop) [Decidable c] (x y : Option α) (f : α → Option β) : (if c then x else y).bind f = if c then x.bind f else y.bind f := by split <;> rfl
theorem phiW_cl (tbl : TB) : (phiW tbl).cl = callW tbl := rfl
theorem phiW_op (tbl : TB) : (phiW tbl).op = callV tbl := rfl
theorem res_cl (rs : List IRes) (e : Env) (H : List AO) : (Fin.cl rs).res e H = retVal e H rs := rfl
theorem res_op (rs : List IRes) (e : Env) (H : List AO) : (Fin.op rs).res e H = (resVals e H rs).map fun vs => (packV vs, H) := rfl

theorem aop_pick (φ : Phi) (c a b : OP) (e : Env) (H : List AO) : aop φ (.pick c a b) e H = match c.ev e with
    | .bool t => some (if t = true then a.ev e else b.ev e, H)
    | _ => none := rfl

/- how the small functions read, constructor by constructor (so that a value of which only a property is known stays as it is) -/
@[simp] theorem conv0_top (H : List AO) : conv0 H .top = .top := rfl
@[simp] theorem conv1_top (H : List AO) : conv1 H .top = conv0 H .top := rfl
@[simp] theorem refs0_top  : refs0 .top = [] := rfl
@[simp] theorem refs1_top  : refs1 .top = refs0 .top := rfl
@[simp] theorem shift0_top (q : Nat) : shift0 q .top = .top := rfl
@[simp] theorem shift1_top (q : Nat) : shift1 q .top = shift0 q .top := rfl
@[simp] theorem shift2_top (q : Nat) : shift2 q .top = shift1 q .top := rfl
@[simp] theorem scal_top  : scal .top = false := rfl
@[simp] theorem okCells_top  : okCells .top = false := rfl
@[simp] theorem lone_top  : lone .top = .top := rfl
@[simp] theorem cells_top  : AV.cells .top = [.top] := rfl
@[simp] theorem alen_top  : alen .top = none := rfl
@[simp] theorem elems_top (H : List AO) (q : Nat) : elems H q .top = none := rfl
@[simp] theorem plain_top  : plain .top = false := rfl
@[simp] theorem plainR_top  : plainR .top = plain .top := rfl
@[simp] theorem exp0_top (H : List AO) (x : XS) : exp0 H .top x = (conv0 H .top, x) := rfl
@[simp] theorem exp1_top (H : List AO) (x : XS) : exp1 H .top x = exp0 H .top x := rfl
@[simp] theorem conv0_bool (H : List AO) (b : Bool) : conv0 H (.bool b) = .bool b := rfl
@[simp] theorem conv1_bool (H : List AO) (b : Bool) : conv1 H (.bool b) = conv0 H (.bool b) := rfl
@[simp] theorem refs0_bool (b : Bool) : refs0 (.bool b) = [] := rfl
@[simp] theorem refs1_bool (b : Bool) : refs1 (.bool b) = refs0 (.bool b) := rfl
@[simp] theorem shift0_bool (q : Nat) (b : Bool) : shift0 q (.bool b) = (.bool b) := rfl
@[simp] theorem shift1_bool (q : Nat) (b : Bool) : shift1 q (.bool b) = shift0 q (.bool b) := rfl
@[simp] theorem shift2_bool (q : Nat) (b : Bool) : shift2 q (.bool b) = shift1 q (.bool b) := rfl
@[simp] theorem scal_bool (b : Bool) : scal (.bool b) = true := rfl
@[simp] theorem okCells_bool (b : Bool) : okCells (.bool b) = true := rfl
@[simp] theorem lone_bool (b : Bool) : lone (.bool b) = (.bool b) := rfl
@[simp] theorem cells_bool (b : Bool) : AV.cells (.bool b) = [(.bool b)] := rfl
@[simp] theorem alen_bool (b : Bool) : alen (.bool b) = none := rfl
@[simp] theorem elems_bool (H : List AO) (q : Nat) (b : Bool) : elems H q (.bool b) = none := rfl
@[simp] theorem plain_bool (b : Bool) : plain (.bool b) = true := rfl
@[simp] theorem plainR_bool (b : Bool) : plainR (.bool b) = plain (.bool b) := rfl
@[simp] theorem exp0_bool (H : List AO) (b : Bool) (x : XS) : exp0 H (.bool b) x = (conv0 H (.bool b), x) := rfl
@[simp] theorem exp1_bool (H : List AO) (b : Bool) (x : XS) : exp1 H (.bool b) x = exp0 H (.bool b) x := rfl
@[simp] theorem conv0_int (H : List AO) (k : IntKind) (n : Int) : conv0 H (.int k n) = .int k n := rfl
@[simp] theorem conv1_int (H : List AO) (k : IntKind) (n : Int) : conv1 H (.int k n) = conv0 H (.int k n) := rfl
@[simp] theorem refs0_int (k : IntKind) (n : Int) : refs0 (.int k n) = [] := rfl
@[simp] theorem refs1_int (k : IntKind) (n : Int) : refs1 (.int k n) = refs0 (.int k n) := rfl
@[simp] theorem shift0_int (q : Nat) (k : IntKind) (n : Int) : shift0 q (.int k n) = (.int k n) := rfl
@[simp] theorem shift1_int (q : Nat) (k : IntKind) (n : Int) : shift1 q (.int k n) = shift0 q (.int k n) := rfl
@[simp] theorem shift2_int (q : Nat) (k : IntKind) (n : Int) : shift2 q (.int k n) = shift1 q (.int k n) := rfl
@[simp] theorem scal_int (k : IntKind) (n : Int) : scal (.int k n) = true := rfl
@[simp] theorem okCells_int (k : IntKind) (n : Int) : okCells (.int k n) = true := rfl
@[simp] theorem lone_int (k : IntKind) (n : Int) : lone (.int k n) = (.int k n) := rfl
@[simp] theorem cells_int (k : IntKind) (n : Int) : AV.cells (.int k n) = [(.int k n)] := rfl
@[simp] theorem alen_int (k : IntKind) (n : Int) : alen (.int k n) = none := rfl
@[simp] theorem elems_int (H : List AO) (q : Nat) (k : IntKind) (n : Int) : elems H q (.int k n) = none := rfl
@[simp] theorem plain_int (k : IntKind) (n : Int) : plain (.int k n) = true := rfl
@[simp] theorem plainR_int (k : IntKind) (n : Int) : plainR (.int k n) = plain (.int k n) := rfl
@[simp] theorem exp0_int (H : List AO) (k : IntKind) (n : Int) (x : XS) : exp0 H (.int k n) x = (conv0 H (.int k n), x) := rfl
@[simp] theorem exp1_int (H : List AO) (k : IntKind) (n : Int) (x : XS) : exp1 H (.int k n) x = exp0 H (.int k n) x := rfl
@[simp] theorem conv0_str (H : List AO) (s : List UInt8) : conv0 H (.str s) = .str s := rfl
@[simp] theorem conv1_str (H : List AO) (s : List UInt8) : conv1 H (.str s) = conv0 H (.str s) := rfl
@[simp] theorem refs0_str (s : List UInt8) : refs0 (.str s) = [] := rfl
@[simp] theorem refs1_str (s : List UInt8) : refs1 (.str s) = refs0 (.str s) := rfl
@[simp] theorem shift0_str (q : Nat) (s : List UInt8) : shift0 q (.str s) = (.str s) := rfl
@[simp] theorem shift1_str (q : Nat) (s : List UInt8) : shift1 q (.str s) = shift0 q (.str s) := rfl
@[simp] theorem shift2_str (q : Nat) (s : List UInt8) : shift2 q (.str s) = shift1 q (.str s) := rfl
@[simp] theorem scal_str (s : List UInt8) : scal (.str s) = true := rfl
@[simp] theorem okCells_str (s : List UInt8) : okCells (.str s) = true := rfl
@[simp] theorem lone_str (s : List UInt8) : lone (.str s) = (.str s) := rfl
@[simp] theorem cells_str (s : List UInt8) : AV.cells (.str s) = [(.str s)] := rfl
@[simp] theorem alen_str (s : List UInt8) : alen (.str s) = none := rfl
@[simp] theorem elems_str (H : List AO) (q : Nat) (s : List UInt8) : elems H q (.str s) = none := rfl
@[simp] theorem plain_str (s : List UInt8) : plain (.str s) = true := rfl
@[simp] theorem plainR_str (s : List UInt8) : plainR (.str s) = plain (.str s) := rfl
@[simp] theorem exp0_str (H : List AO) (s : List UInt8) (x : XS) : exp0 H (.str s) x = (conv0 H (.str s), x) := rfl
@[simp] theorem exp1_str (H : List AO) (s : List UInt8) (x : XS) : exp1 H (.str s) x = exp0 H (.str s) x := rfl
@[simp] theorem conv0_nilp (H : List AO) : conv0 H .nilp = .nilp := rfl
@[simp] theorem conv1_nilp (H : List AO) : conv1 H .nilp = conv0 H .nilp := rfl
@[simp] theorem refs0_nilp  : refs0 .nilp = [] := rfl
@[simp] theorem refs1_nilp  : refs1 .nilp = refs0 .nilp := rfl
@[simp] theorem shift0_nilp (q : Nat) : shift0 q .nilp = .nilp := rfl
@[simp] theorem shift1_nilp (q : Nat) : shift1 q .nilp = shift0 q .nilp := rfl
@[simp] theorem shift2_nilp (q : Nat) : shift2 q .nilp = shift1 q .nilp := rfl
@[simp] theorem scal_nilp  : scal .nilp = true := rfl
@[simp] theorem okCells_nilp  : okCells .nilp = true := rfl
@[simp] theorem lone_nilp  : lone .nilp = .nilp := rfl
@[simp] theorem cells_nilp  : AV.cells .nilp = [.nilp] := rfl
@[simp] theorem alen_nilp  : alen .nilp = none := rfl
@[simp] theorem elems_nilp (H : List AO) (q : Nat) : elems H q .nilp = none := rfl
@[simp] theorem plain_nilp  : plain .nilp = false := rfl
@[simp] theorem plainR_nilp  : plainR .nilp = plain .nilp := rfl
@[simp] theorem exp0_nilp (H : List AO) (x : XS) : exp0 H .nilp x = (conv0 H .nilp, x) := rfl
@[simp] theorem exp1_nilp (H : List AO) (x : XS) : exp1 H .nilp x = exp0 H .nilp x := rfl
@[simp] theorem conv0_bptr (H : List AO) (id o : Nat) : conv0 H (.bptr id o) = .top := rfl
@[simp] theorem conv1_bptr (H : List AO) (id o : Nat) : conv1 H (.bptr id o) = conv0 H (.bptr id o) := rfl
@[simp] theorem refs0_bptr (id o : Nat) : refs0 (.bptr id o) = [] := rfl
@[simp] theorem refs1_bptr (id o : Nat) : refs1 (.bptr id o) = refs0 (.bptr id o) := rfl
@[simp] theorem shift0_bptr (q : Nat) (id o : Nat) : shift0 q (.bptr id o) = (.bptr id o) := rfl
@[simp] theorem shift1_bptr (q : Nat) (id o : Nat) : shift1 q (.bptr id o) = shift0 q (.bptr id o) := rfl
@[simp] theorem shift2_bptr (q : Nat) (id o : Nat) : shift2 q (.bptr id o) = shift1 q (.bptr id o) := rfl
@[simp] theorem scal_bptr (id o : Nat) : scal (.bptr id o) = true := rfl
@[simp] theorem okCells_bptr (id o : Nat) : okCells (.bptr id o) = true := rfl
@[simp] theorem lone_bptr (id o : Nat) : lone (.bptr id o) = (.bptr id o) := rfl
@[simp] theorem cells_bptr (id o : Nat) : AV.cells (.bptr id o) = [(.bptr id o)] := rfl
@[simp] theorem alen_bptr (id o : Nat) : alen (.bptr id o) = none := rfl
@[simp] theorem elems_bptr (H : List AO) (q : Nat) (id o : Nat) : elems H q (.bptr id o) = none := rfl
@[simp] theorem plain_bptr (id o : Nat) : plain (.bptr id o) = false := rfl
@[simp] theorem plainR_bptr (id o : Nat) : plainR (.bptr id o) = plain (.bptr id o) := rfl
@[simp] theorem exp0_bptr (H : List AO) (id o : Nat) (x : XS) : exp0 H (.bptr id o) x = (conv0 H (.bptr id o), x) := rfl
@[simp] theorem exp1_bptr (H : List AO) (id o : Nat) (x : XS) : exp1 H (.bptr id o) x = exp0 H (.bptr id o) x := rfl
@[simp] theorem conv0_rptr (H : List AO) (id g i o : Nat) : conv0 H (.rptr id g i o) = .top := rfl
@[simp] theorem conv1_rptr (H : List AO) (id g i o : Nat) : conv1 H (.rptr id g i o) = conv0 H (.rptr id g i o) := rfl
@[simp] theorem refs0_rptr (id g i o : Nat) : refs0 (.rptr id g i o) = [] := rfl
@[simp] theorem refs1_rptr (id g i o : Nat) : refs1 (.rptr id g i o) = refs0 (.rptr id g i o) := rfl
@[simp] theorem shift0_rptr (q : Nat) (id g i o : Nat) : shift0 q (.rptr id g i o) = (.rptr id g i o) := rfl
@[simp] theorem shift1_rptr (q : Nat) (id g i o : Nat) : shift1 q (.rptr id g i o) = shift0 q (.rptr id g i o) := rfl
@[simp] theorem shift2_rptr (q : Nat) (id g i o : Nat) : shift2 q (.rptr id g i o) = shift1 q (.rptr id g i o) := rfl
@[simp] theorem scal_rptr (id g i o : Nat) : scal (.rptr id g i o) = true := rfl
@[simp] theorem okCells_rptr (id g i o : Nat) : okCells (.rptr id g i o) = true := rfl
@[simp] theorem lone_rptr (id g i o : Nat) : lone (.rptr id g i o) = (.rptr id g i o) := rfl
@[simp] theorem cells_rptr (id g i o : Nat) : AV.cells (.rptr id g i o) = [(.rptr id g i o)] := rfl
@[simp] theorem alen_rptr (id g i o : Nat) : alen (.rptr id g i o) = none := rfl
@[simp] theorem elems_rptr (H : List AO) (q : Nat) (id g i o : Nat) : elems H q (.rptr id g i o) = none := rfl
@[simp] theorem plain_rptr (id g i o : Nat) : plain (.rptr id g i o) = false := rfl
@[simp] theorem plainR_rptr (id g i o : Nat) : plainR (.rptr id g i o) = plain (.rptr id g i o) := rfl
@[simp] theorem exp0_rptr (H : List AO) (id g i o : Nat) (x : XS) : exp0 H (.rptr id g i o) x = (conv0 H (.rptr id g i o), x) := rfl
@[simp] theorem exp1_rptr (H : List AO) (id g i o : Nat) (x : XS) : exp1 H (.rptr id g i o) x = exp0 H (.rptr id g i o) x := rfl
@[simp] theorem conv0_cptr (H : List AO) (e : AV) (o : Nat) : conv0 H (.cptr e o) = .cptr e o := rfl
@[simp] theorem conv1_cptr (H : List AO) (e : AV) (o : Nat) : conv1 H (.cptr e o) = conv0 H (.cptr e o) := rfl
@[simp] theorem refs0_cptr (e : AV) (o : Nat) : refs0 (.cptr e o) = [] := rfl
@[simp] theorem refs1_cptr (e : AV) (o : Nat) : refs1 (.cptr e o) = refs0 (.cptr e o) := rfl
@[simp] theorem shift0_cptr (q : Nat) (e : AV) (o : Nat) : shift0 q (.cptr e o) = (.cptr e o) := rfl
@[simp] theorem shift1_cptr (q : Nat) (e : AV) (o : Nat) : shift1 q (.cptr e o) = shift0 q (.cptr e o) := rfl
@[simp] theorem shift2_cptr (q : Nat) (e : AV) (o : Nat) : shift2 q (.cptr e o) = shift1 q (.cptr e o) := rfl
@[simp] theorem scal_cptr (e : AV) (o : Nat) : scal (.cptr e o) = true := rfl
@[simp] theorem okCells_cptr (e : AV) (o : Nat) : okCells (.cptr e o) = true := rfl
@[simp] theorem lone_cptr (e : AV) (o : Nat) : lone (.cptr e o) = (.cptr e o) := rfl
@[simp] theorem cells_cptr (e : AV) (o : Nat) : AV.cells (.cptr e o) = [(.cptr e o)] := rfl
@[simp] theorem alen_cptr (e : AV) (o : Nat) : alen (.cptr e o) = none := rfl
@[simp] theorem elems_cptr (H : List AO) (q : Nat) (e : AV) (o : Nat) : elems H q (.cptr e o) = none := rfl
@[simp] theorem plain_cptr (e : AV) (o : Nat) : plain (.cptr e o) = false := rfl
@[simp] theorem plainR_cptr (e : AV) (o : Nat) : plainR (.cptr e o) = plain (.cptr e o) := rfl
@[simp] theorem exp0_cptr (H : List AO) (e : AV) (o : Nat) (x : XS) : exp0 H (.cptr e o) x = (conv0 H (.cptr e o), x) := rfl
@[simp] theorem exp1_cptr (H : List AO) (e : AV) (o : Nat) (x : XS) : exp1 H (.cptr e o) x = exp0 H (.cptr e o) x := rfl
@[simp] theorem conv0_e0 (H : List AO) : conv0 H .e0 = .e0 := rfl
@[simp] theorem conv1_e0 (H : List AO) : conv1 H .e0 = conv0 H .e0 := rfl
@[simp] theorem refs0_e0  : refs0 .e0 = [] := rfl
@[simp] theorem refs1_e0  : refs1 .e0 = refs0 .e0 := rfl
@[simp] theorem shift0_e0 (q : Nat) : shift0 q .e0 = .e0 := rfl
@[simp] theorem shift1_e0 (q : Nat) : shift1 q .e0 = shift0 q .e0 := rfl
@[simp] theorem shift2_e0 (q : Nat) : shift2 q .e0 = shift1 q .e0 := rfl
@[simp] theorem scal_e0  : scal .e0 = true := rfl
@[simp] theorem okCells_e0  : okCells .e0 = true := rfl
@[simp] theorem lone_e0  : lone .e0 = .e0 := rfl
@[simp] theorem cells_e0  : AV.cells .e0 = [.e0] := rfl
@[simp] theorem alen_e0  : alen .e0 = some 0 := rfl
@[simp] theorem elems_e0 (H : List AO) (q : Nat) : elems H q .e0 = some [] := rfl
@[simp] theorem plain_e0  : plain .e0 = false := rfl
@[simp] theorem plainR_e0  : plainR .e0 = plain .e0 := rfl
@[simp] theorem exp0_e0 (H : List AO) (x : XS) : exp0 H .e0 x = (conv0 H .e0, x) := rfl
@[simp] theorem exp1_e0 (H : List AO) (x : XS) : exp1 H .e0 x = exp0 H .e0 x := rfl
@[simp] theorem conv0_sl (H : List AO) (s : Nat) (es : List AV) : conv0 H (.sl s es) = .sl s es := rfl
@[simp] theorem conv1_sl (H : List AO) (s : Nat) (es : List AV) : conv1 H (.sl s es) = conv0 H (.sl s es) := rfl
@[simp] theorem refs0_sl (s : Nat) (es : List AV) : refs0 (.sl s es) = [] := rfl
@[simp] theorem refs1_sl (s : Nat) (es : List AV) : refs1 (.sl s es) = refs0 (.sl s es) := rfl
@[simp] theorem shift0_sl (q : Nat) (s : Nat) (es : List AV) : shift0 q (.sl s es) = (.sl s es) := rfl
@[simp] theorem shift1_sl (q : Nat) (s : Nat) (es : List AV) : shift1 q (.sl s es) = shift0 q (.sl s es) := rfl
@[simp] theorem shift2_sl (q : Nat) (s : Nat) (es : List AV) : shift2 q (.sl s es) = shift1 q (.sl s es) := rfl
@[simp] theorem scal_sl (s : Nat) (es : List AV) : scal (.sl s es) = true := rfl
@[simp] theorem okCells_sl (s : Nat) (es : List AV) : okCells (.sl s es) = true := rfl
@[simp] theorem lone_sl (s : Nat) (es : List AV) : lone (.sl s es) = (.sl s es) := rfl
@[simp] theorem cells_sl (s : Nat) (es : List AV) : AV.cells (.sl s es) = [(.sl s es)] := rfl
@[simp] theorem alen_sl (s : Nat) (es : List AV) : alen (.sl s es) = some es.length := rfl
@[simp] theorem elems_sl (H : List AO) (q : Nat) (s : Nat) (es : List AV) : elems H q (.sl s es) = if s = q then some es else none := rfl
@[simp] theorem plain_sl (s : Nat) (es : List AV) : plain (.sl s es) = false := rfl
@[simp] theorem plainR_sl (s : Nat) (es : List AV) : plainR (.sl s es) = plain (.sl s es) := rfl
@[simp] theorem exp0_sl (H : List AO) (s : Nat) (es : List AV) (x : XS) : exp0 H (.sl s es) x = (conv0 H (.sl s es), x) := rfl
@[simp] theorem exp1_sl (H : List AO) (s : Nat) (es : List AV) (x : XS) : exp1 H (.sl s es) x = exp0 H (.sl s es) x := rfl
@[simp] theorem conv0_ref (H : List AO) (id g o n : Nat) : conv0 H (.ref id g o n) = match rdRow H id g with | some r => .sl r.1 ((r.2.drop o).take n) | none => .top := rfl
@[simp] theorem conv1_ref (H : List AO) (id g o n : Nat) : conv1 H (.ref id g o n) = conv0 H (.ref id g o n) := rfl
@[simp] theorem refs0_ref (id g o n : Nat) : refs0 (.ref id g o n) = [id] := rfl
@[simp] theorem refs1_ref (id g o n : Nat) : refs1 (.ref id g o n) = refs0 (.ref id g o n) := rfl
@[simp] theorem shift0_ref (q : Nat) (id g o n : Nat) : shift0 q (.ref id g o n) = .ref (q + id) g o n := rfl
@[simp] theorem shift1_ref (q : Nat) (id g o n : Nat) : shift1 q (.ref id g o n) = shift0 q (.ref id g o n) := rfl
@[simp] theorem shift2_ref (q : Nat) (id g o n : Nat) : shift2 q (.ref id g o n) = shift1 q (.ref id g o n) := rfl
@[simp] theorem scal_ref (id g o n : Nat) : scal (.ref id g o n) = true := rfl
@[simp] theorem okCells_ref (id g o n : Nat) : okCells (.ref id g o n) = true := rfl
@[simp] theorem lone_ref (id g o n : Nat) : lone (.ref id g o n) = (.ref id g o n) := rfl
@[simp] theorem cells_ref (id g o n : Nat) : AV.cells (.ref id g o n) = [(.ref id g o n)] := rfl
@[simp] theorem alen_ref (id g o n : Nat) : alen (.ref id g o n) = some n := rfl
@[simp] theorem elems_ref (H : List AO) (q : Nat) (id g o n : Nat) : elems H q (.ref id g o n) = (rdRow H id g).bind fun r => if r.1 = q then some ((r.2.drop o).take n) else none := rfl
@[simp] theorem plain_ref (id g o n : Nat) : plain (.ref id g o n) = false := rfl
@[simp] theorem plainR_ref (id g o n : Nat) : plainR (.ref id g o n) = plain (.ref id g o n) := rfl
@[simp] theorem exp0_ref (H : List AO) (id g o n : Nat) (x : XS) : exp0 H (.ref id g o n) x = if x.E.contains id then (.top, x) else match H[id]? with | some (.row T s g' es) => if g' = g ∧ o = 0 ∧ ¬ x.U.contains id then (.ref x.rows.length 0 0 (es.take n).length, { E := id :: x.E, U := x.U, rows := x.rows ++ [.row T s 0 (es.take n)] }) else (conv0 H (.ref id g o n), { x with U := id :: x.U }) | _ => (conv0 H (.ref id g o n), x) := rfl
@[simp] theorem exp1_ref (H : List AO) (id g o n : Nat) (x : XS) : exp1 H (.ref id g o n) x = exp0 H (.ref id g o n) x := rfl
@[simp] theorem conv0_agg (H : List AO) (cs : List AV) : conv0 H (.agg cs) = .top := rfl
@[simp] theorem conv1_agg (H : List AO) (cs : List AV) : conv1 H (.agg cs) = .agg (cs.map (conv0 H)) := rfl
@[simp] theorem refs0_agg (cs : List AV) : refs0 (.agg cs) = [] := rfl
@[simp] theorem refs1_agg (cs : List AV) : refs1 (.agg cs) = cs.flatMap refs0 := rfl
@[simp] theorem shift0_agg (q : Nat) (cs : List AV) : shift0 q (.agg cs) = (.agg cs) := rfl
@[simp] theorem shift1_agg (q : Nat) (cs : List AV) : shift1 q (.agg cs) = .agg (cs.map (shift0 q)) := rfl
@[simp] theorem shift2_agg (q : Nat) (cs : List AV) : shift2 q (.agg cs) = shift1 q (.agg cs) := rfl
@[simp] theorem scal_agg (cs : List AV) : scal (.agg cs) = false := rfl
@[simp] theorem okCells_agg (cs : List AV) : okCells (.agg cs) = true := rfl
@[simp] theorem lone_agg (cs : List AV) : lone (.agg cs) = .top := rfl
@[simp] theorem cells_agg (cs : List AV) : AV.cells (.agg cs) = cs := rfl
@[simp] theorem alen_agg (cs : List AV) : alen (.agg cs) = none := rfl
@[simp] theorem elems_agg (H : List AO) (q : Nat) (cs : List AV) : elems H q (.agg cs) = none := rfl
@[simp] theorem plain_agg (cs : List AV) : plain (.agg cs) = false := rfl
@[simp] theorem plainR_agg (cs : List AV) : plainR (.agg cs) = plain (.agg cs) := rfl
@[simp] theorem exp0_agg (H : List AO) (cs : List AV) (x : XS) : exp0 H (.agg cs) x = (conv0 H (.agg cs), x) := rfl
@[simp] theorem exp1_agg (H : List AO) (cs : List AV) (x : XS) : exp1 H (.agg cs) x = (.agg (expL H cs x).1, (expL H cs x).2) := rfl
@[simp] theorem conv0_tup (H : List AO) (vs : List AV) : conv0 H (.tup vs) = .top := rfl
@[simp] theorem conv1_tup (H : List AO) (vs : List AV) : conv1 H (.tup vs) = conv0 H (.tup vs) := rfl
@[simp] theorem refs0_tup (vs : List AV) : refs0 (.tup vs) = [] := rfl
@[simp] theorem refs1_tup (vs : List AV) : refs1 (.tup vs) = refs0 (.tup vs) := rfl
@[simp] theorem shift0_tup (q : Nat) (vs : List AV) : shift0 q (.tup vs) = (.tup vs) := rfl
@[simp] theorem shift1_tup (q : Nat) (vs : List AV) : shift1 q (.tup vs) = shift0 q (.tup vs) := rfl
@[simp] theorem shift2_tup (q : Nat) (vs : List AV) : shift2 q (.tup vs) = .tup (vs.map (shift1 q)) := rfl
@[simp] theorem scal_tup (vs : List AV) : scal (.tup vs) = false := rfl
@[simp] theorem okCells_tup (vs : List AV) : okCells (.tup vs) = false := rfl
@[simp] theorem lone_tup (vs : List AV) : lone (.tup vs) = (.tup vs) := rfl
@[simp] theorem cells_tup (vs : List AV) : AV.cells (.tup vs) = [(.tup vs)] := rfl
@[simp] theorem alen_tup (vs : List AV) : alen (.tup vs) = none := rfl
@[simp] theorem elems_tup (H : List AO) (q : Nat) (vs : List AV) : elems H q (.tup vs) = none := rfl
@[simp] theorem plain_tup (vs : List AV) : plain (.tup vs) = false := rfl
@[simp] theorem plainR_tup (vs : List AV) : plainR (.tup vs) = vs.all plain := rfl
@[simp] theorem exp0_tup (H : List AO) (vs : List AV) (x : XS) : exp0 H (.tup vs) x = (conv0 H (.tup vs), x) := rfl
@[simp] theorem exp1_tup (H : List AO) (vs : List AV) (x : XS) : exp1 H (.tup vs) x = exp0 H (.tup vs) x := rfl
@[simp] theorem conv0_fn0 (H : List AO) (f : Nat) : conv0 H (.fn f []) = .fn f [] := rfl
@[simp] theorem conv0_fn1 (H : List AO) (f : Nat) (c : AV) (cs : List AV) : conv0 H (.fn f (c :: cs)) = .top := rfl
@[simp] theorem conv1_fn (H : List AO) (f : Nat) (cs : List AV) : conv1 H (.fn f cs) = .fn f (cs.map (conv0 H)) := rfl
@[simp] theorem refs0_fn (f : Nat) (cs : List AV) : refs0 (.fn f cs) = [] := rfl
@[simp] theorem refs1_fn (f : Nat) (cs : List AV) : refs1 (.fn f cs) = cs.flatMap refs0 := rfl
@[simp] theorem shift0_fn (q : Nat) (f : Nat) (cs : List AV) : shift0 q (.fn f cs) = (.fn f cs) := rfl
@[simp] theorem shift1_fn (q : Nat) (f : Nat) (cs : List AV) : shift1 q (.fn f cs) = shift0 q (.fn f cs) := rfl
@[simp] theorem shift2_fn (q : Nat) (f : Nat) (cs : List AV) : shift2 q (.fn f cs) = shift1 q (.fn f cs) := rfl
@[simp] theorem scal_fn (f : Nat) (cs : List AV) : scal (.fn f cs) = true := rfl
@[simp] theorem okCells_fn (f : Nat) (cs : List AV) : okCells (.fn f cs) = true := rfl
@[simp] theorem lone_fn (f : Nat) (cs : List AV) : lone (.fn f cs) = (.fn f cs) := rfl
@[simp] theorem cells_fn (f : Nat) (cs : List AV) : AV.cells (.fn f cs) = [(.fn f cs)] := rfl
@[simp] theorem alen_fn (f : Nat) (cs : List AV) : alen (.fn f cs) = none := rfl
@[simp] theorem elems_fn (H : List AO) (q : Nat) (f : Nat) (cs : List AV) : elems H q (.fn f cs) = none := rfl
@[simp] theorem plain_fn (f : Nat) (cs : List AV) : plain (.fn f cs) = false := rfl
@[simp] theorem plainR_fn (f : Nat) (cs : List AV) : plainR (.fn f cs) = plain (.fn f cs) := rfl
@[simp] theorem exp0_fn (H : List AO) (f : Nat) (cs : List AV) (x : XS) : exp0 H (.fn f cs) x = (conv0 H (.fn f cs), x) := rfl
@[simp] theorem exp1_fn (H : List AO) (f : Nat) (cs : List AV) (x : XS) : exp1 H (.fn f cs) x = exp0 H (.fn f cs) x := rfl
@[simp] theorem conv0_mp (H : List AO) (id : Nat) : conv0 H (.mp id) = .top := rfl
@[simp] theorem conv1_mp (H : List AO) (id : Nat) : conv1 H (.mp id) = conv0 H (.mp id) := rfl
@[simp] theorem refs0_mp (id : Nat) : refs0 (.mp id) = [] := rfl
@[simp] theorem refs1_mp (id : Nat) : refs1 (.mp id) = refs0 (.mp id) := rfl
@[simp] theorem shift0_mp (q : Nat) (id : Nat) : shift0 q (.mp id) = (.mp id) := rfl
@[simp] theorem shift1_mp (q : Nat) (id : Nat) : shift1 q (.mp id) = shift0 q (.mp id) := rfl
@[simp] theorem shift2_mp (q : Nat) (id : Nat) : shift2 q (.mp id) = shift1 q (.mp id) := rfl
@[simp] theorem scal_mp (id : Nat) : scal (.mp id) = true := rfl
@[simp] theorem okCells_mp (id : Nat) : okCells (.mp id) = true := rfl
@[simp] theorem lone_mp (id : Nat) : lone (.mp id) = (.mp id) := rfl
@[simp] theorem cells_mp (id : Nat) : AV.cells (.mp id) = [(.mp id)] := rfl
@[simp] theorem alen_mp (id : Nat) : alen (.mp id) = none := rfl
@[simp] theorem elems_mp (H : List AO) (q : Nat) (id : Nat) : elems H q (.mp id) = none := rfl
@[simp] theorem plain_mp (id : Nat) : plain (.mp id) = false := rfl
@[simp] theorem plainR_mp (id : Nat) : plainR (.mp id) = plain (.mp id) := rfl
@[simp] theorem exp0_mp (H : List AO) (id : Nat) (x : XS) : exp0 H (.mp id) x = (conv0 H (.mp id), x) := rfl
@[simp] theorem exp1_mp (H : List AO) (id : Nat) (x : XS) : exp1 H (.mp id) x = exp0 H (.mp id) x := rfl
@[simp] theorem conv0_itr (H : List AO) (id : Nat) : conv0 H (.itr id) = .top := rfl
@[simp] theorem conv1_itr (H : List AO) (id : Nat) : conv1 H (.itr id) = conv0 H (.itr id) := rfl
@[simp] theorem refs0_itr (id : Nat) : refs0 (.itr id) = [] := rfl
@[simp] theorem refs1_itr (id : Nat) : refs1 (.itr id) = refs0 (.itr id) := rfl
@[simp] theorem shift0_itr (q : Nat) (id : Nat) : shift0 q (.itr id) = (.itr id) := rfl
@[simp] theorem shift1_itr (q : Nat) (id : Nat) : shift1 q (.itr id) = shift0 q (.itr id) := rfl
@[simp] theorem shift2_itr (q : Nat) (id : Nat) : shift2 q (.itr id) = shift1 q (.itr id) := rfl
@[simp] theorem scal_itr (id : Nat) : scal (.itr id) = true := rfl
@[simp] theorem okCells_itr (id : Nat) : okCells (.itr id) = true := rfl
@[simp] theorem lone_itr (id : Nat) : lone (.itr id) = (.itr id) := rfl
@[simp] theorem cells_itr (id : Nat) : AV.cells (.itr id) = [(.itr id)] := rfl
@[simp] theorem alen_itr (id : Nat) : alen (.itr id) = none := rfl
@[simp] theorem elems_itr (H : List AO) (q : Nat) (id : Nat) : elems H q (.itr id) = match H[id]? with | some (.obj (.bb l)) => if q = 1 then some (l.map fun b => .int .u8 b.toNat) else none | _ => none := rfl
@[simp] theorem bytesOf_map : ∀ l : List UInt8, bytesOf (l.map fun b => .int .u8 b.toNat) = some l
  | [] => rfl
  | b :: l => by simp [bytesOf, bytesOf_map l]
@[simp] theorem plain_itr (id : Nat) : plain (.itr id) = false := rfl
@[simp] theorem plainR_itr (id : Nat) : plainR (.itr id) = plain (.itr id) := rfl
@[simp] theorem exp0_itr (H : List AO) (id : Nat) (x : XS) : exp0 H (.itr id) x = (conv0 H (.itr id), x) := rfl
@[simp] theorem exp1_itr (H : List AO) (id : Nat) (x : XS) : exp1 H (.itr id) x = exp0 H (.itr id) x := rfl
@[simp] theorem conv0_nils (H : List AO) : conv0 H .nils = .nils := rfl
@[simp] theorem conv1_nils (H : List AO) : conv1 H .nils = conv0 H .nils := rfl
@[simp] theorem refs0_nils  : refs0 .nils = [] := rfl
@[simp] theorem refs1_nils  : refs1 .nils = refs0 .nils := rfl
@[simp] theorem shift0_nils (q : Nat) : shift0 q .nils = .nils := rfl
@[simp] theorem shift1_nils (q : Nat) : shift1 q .nils = shift0 q .nils := rfl
@[simp] theorem shift2_nils (q : Nat) : shift2 q .nils = shift1 q .nils := rfl
@[simp] theorem scal_nils  : scal .nils = true := rfl
@[simp] theorem okCells_nils  : okCells .nils = true := rfl
@[simp] theorem lone_nils  : lone .nils = .nils := rfl
@[simp] theorem cells_nils  : AV.cells .nils = [.nils] := rfl
@[simp] theorem alen_nils  : alen .nils = some 0 := rfl
@[simp] theorem elems_nils (H : List AO) (q : Nat) : elems H q .nils = some [] := rfl
@[simp] theorem plain_nils  : plain .nils = false := rfl
@[simp] theorem plainR_nils  : plainR .nils = plain .nils := rfl
@[simp] theorem exp0_nils (H : List AO) (x : XS) : exp0 H .nils x = (conv0 H .nils, x) := rfl
@[simp] theorem exp1_nils (H : List AO) (x : XS) : exp1 H .nils x = exp0 H .nils x := rfl
@[simp] theorem conv0_en (H : List AO) : conv0 H .en = .en := rfl
@[simp] theorem conv1_en (H : List AO) : conv1 H .en = conv0 H .en := rfl
@[simp] theorem refs0_en  : refs0 .en = [] := rfl
@[simp] theorem refs1_en  : refs1 .en = refs0 .en := rfl
@[simp] theorem shift0_en (q : Nat) : shift0 q .en = .en := rfl
@[simp] theorem shift1_en (q : Nat) : shift1 q .en = shift0 q .en := rfl
@[simp] theorem shift2_en (q : Nat) : shift2 q .en = shift1 q .en := rfl
@[simp] theorem scal_en  : scal .en = true := rfl
@[simp] theorem okCells_en  : okCells .en = true := rfl
@[simp] theorem lone_en  : lone .en = .en := rfl
@[simp] theorem cells_en  : AV.cells .en = [.en] := rfl
@[simp] theorem alen_en  : alen .en = some 0 := rfl
@[simp] theorem elems_en (H : List AO) (q : Nat) : elems H q .en = some [] := rfl
@[simp] theorem plain_en  : plain .en = false := rfl
@[simp] theorem plainR_en  : plainR .en = plain .en := rfl
@[simp] theorem exp0_en (H : List AO) (x : XS) : exp0 H .en x = (conv0 H .en, x) := rfl
@[simp] theorem exp1_en (H : List AO) (x : XS) : exp1 H .en x = exp0 H .en x := rfl
attribute [simp] regA_B dtK_some dtK_none dtK_ite runDT_nilS runDT_opS brK_some runDT_brS agree_mk AV.beq_refl AO.beqL_refl runOps_nil runOps_stp stp_some stp_none stp_ite scr runOps_gd gdK_bool gdK_tup cndK_bool bkK_some bkK_none bkK_ite phiW_cl phiW_op res_cl res_op run_seq run_skip run_exit run_ret regK_nilB regK_consB run_condM run_block back_lp run_scope back_nil back_seq back_blk leave_seq leave_lp leave_blk
  aop OP.ev Env.get Env.put scrub bindArgs part pelem aload rdRow frz spl splice astore fillParts fillRow rowRefs aapp aapp0 aappIn aint astr abin ceq ceqs aun natOf bnds bndc acap aslc aidx afld achk plainE resVals retVal expL expV closeL closeR indep0 indepR0 indepR1 indepR2 indepO isAgg' rdO pelemR aloadR aidxR astoreK astoreK1
  mgetD bytesOf rsvIdx aeqnil wrow isE rdb fillPl bnd1 packV maxRow

/- numbers -/
@[simp] theorem wrap64 (n : Int) (h1 : -9223372036854775808 ≤ n) (h2 : n ≤ 9223372036854775807) : IntKind.i64.wrap n = n := by
  unfold IntKind.wrap
  simp [IntKind.bits, IntKind.signed]
  omega

theorem wrapS (i : Nat) (h : i < 9223372036854775807) : IntKind.i64.wrap ((i : Int) + 1) = ((i + 1 : Nat) : Int) := by
  rw [wrap64 _ (by omega) (by omega)]; omega

end Go.PI
