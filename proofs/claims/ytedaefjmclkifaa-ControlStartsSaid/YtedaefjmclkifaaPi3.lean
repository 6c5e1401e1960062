/- The model's code is brought to the interpreter's form: operation by operation, region by region; each region gets the list of slots that are still read behind it. No condition. -/
import Derived.Test.YtedaefjmclkifaaPi2
namespace Go.PI

def cstV0 : Value → Option AV
  | .bool b => some (.bool b)
  | .int k n => some (.int k n)
  | .string s => some (.str s.data.toList)
  | .pointer none => some .nilp
  | .slice none 0 0 => some .e0
  | _ => none

def cstL : List Value → Option (List AV)
  | [] => some []
  | v :: r => (cstV0 v).bind fun a => (cstL r).map fun l => a :: l

def cstV : Value → Option AV
  | .agg cs => (cstL cs.toList).map .agg
  | .tuple ⟨[]⟩ => some (.tup [])
  | v => cstV0 v

def cOpd : Operand → Option OP
  | .tmp t => some (.t t)
  | .const v => (cstV v).map .c
  | .func f => some (.c (.fn f []))
  | .global _ => none

def cOpds : List Operand → Option (List OP)
  | [] => some []
  | x :: r => (cOpd x).bind fun a => (cOpds r).map fun l => a :: l

def cOpt : Option Operand → Option (Option OP)
  | none => some none
  | some x => (cOpd x).map some

def aggD : TypeDesc → Bool
  | .struct _ => true
  | .array _ _ => true
  | _ => false

/-- size in cells, whether a struct or an array -/
def tySize (P : Program) (t : TypeId) : Option (Nat × Bool) :=
  (P.info? t).bind fun i => (P.underlying t).map fun d => (i.size, aggD d)

/-- an element type: its size, at least one cell, at most 2^17 bytes, its zero -/
def tyElem (P : Program) (t : TypeId) : Option (Nat × AV) :=
  (P.info? t).bind fun i => (i.zero).bind fun z => (cstV z).bind fun a => if okCells a = true ∧ 0 < i.size ∧ i.bytes ≤ 131072 ∧ a.cells.length = i.size ∧ z.cells.size = i.size then some (i.size, a) else none

def places (P : Program) (fs : Array Field) : Option (List (Nat × Nat)) := fs.toList.mapM (fun f => (P.info? f.type).map fun i => (f.offset, i.size))

def cParts (pl : List (Nat × Nat)) : List (Nat × Operand) → Option (List (Nat × Nat × OP))
  | [] => some []
  | (k, x) :: r => (pl[k]?).bind fun q => (cOpd x).bind fun a => (cParts pl r).map fun l => (q.1, q.2, a) :: l

def cRowParts : List (Nat × Operand) → Option (List (Nat × OP))
  | [] => some []
  | (k, x) :: r => (cOpd x).bind fun a => (cRowParts r).map fun l => (k, a) :: l

def ckOf (P : Program) (t : TypeId) : Option CK :=
  match P.underlying t with
  | some (.int _) => some .i
  | some .bool => some .b
  | some .string => some .s
  | _ => none

/-- a struct whose parts are all plain: its == compares cell by cell -/
def eqPlain (P : Program) : Nat → List Field → Option (List CK)
  | _, [] => some []
  | i, f :: r => if f.name ≠ "_" ∧ f.offset = i then (ckOf P f.type).bind fun k => (eqPlain P (i + 1) r).map fun l => k :: l else none

def isConst0 : Operand → Bool
  | .const (.int _ n) => n == 0
  | _ => false

def cBuiltin (P : Program) (b : Builtin) (ts : Array TypeId) (args : List OP) : Option IOp :=
  match b, args with
  | .len, [x] => (ts[0]?).bind fun t => match P.underlying t with
    | some (.slice _) => some (.len x)
    | some .string => some (.slen x)
    | _ => none
  | .append, [x, y] => (ts[0]?).bind fun t => (ts[1]?).bind fun u => match P.underlying t with
    | some (.slice e) => if t = u ∧ ts.size = 2 then (tyElem P e).map fun z => .app e z.1 x y else none
    | _ => none
  | .max, [x, y] => some (.mx x y)
  | .min, [x, y] => some (.mn x y)
  | _, _ => none

def cOp (P : Program) (o : Oper) : Option IOp :=
  match o.op with
  | .move x => (cOpd x).map .mv
  | .assign x => match x with
    | .const (.slice none 0 0) => match P.underlying o.type with
      | some (.slice e) => (tyElem P e).map fun z => .nilrow e z.1
      | _ => some (.mv (.c .e0))
    | x => (cOpd x).map .mv
  | .pick c a b => (cOpd c).bind fun c => (cOpd a).bind fun a => (cOpd b).map fun b => .pick c a b
  | .alloc t => (tyElem P t).map fun z => .new t z.1 z.2
  | .box t x => (tySize P t).bind fun s => (cOpd x).map fun x => .box t s.1 x
  | .build t ps => match P.underlying t with
    | some (.struct fs) => (tyElem P t).bind fun z => (places P fs).bind fun pl => (cParts pl ps.toList).map fun ps => .build z.2.cells ps
    | _ => none
  | .buildSlice t n ps => match P.underlying t with
    | some (.slice e) => (tyElem P e).bind fun z => if n * z.1 ≤ 16777216 then (cRowParts ps.toList).map fun ps => .mkrow e z.1 n z.2 ps else none
    | _ => none
  | .load t x => (tySize P t).bind fun s => (cOpd x).bind fun x => if s.2 || s.1 == 1 then some (.load s.2 s.1 x) else none
  | .store t x y => (tySize P t).bind fun s => (cOpd x).bind fun x => (cOpd y).map fun y => .store s.1 x y
  | .nilCheck x => (cOpd x).map .chk
  | .binOp op t x y _ => (cOpd x).bind fun x => (cOpd y).bind fun y => match P.underlying t with
    | some (.struct fs) => (eqPlain P 0 fs.toList).bind fun ks => if P.stoodInHeld t = false ∧ P.eqGuardType P.depth t = false then (match op with | .eql => some (.aeq false ks x y) | .neq => some (.aeq true ks x y) | _ => none) else none
    | some (.int _) => some (.bin op x y)
    | some .string => some (.bin op x y)
    | some .bool => (match op with | .eql => some (.beq false x y) | .neq => some (.beq true x y) | _ => none)
    | _ => none
  | .unOp op _ x => (cOpd x).map (.un op)
  | .convert s d x => match P.underlying s, P.underlying d with
    | some (.int _), some (.int k) => (cOpd x).map (.conv k)
    | some .string, some .string => (cOpd x).map .sid
    | _, _ => none
  | .slice t x lo hi mx => (cOpd x).bind fun a => match P.underlying t, mx with
    | some (.slice e), none => (tyElem P e).bind fun z => (cOpt lo).bind fun lo => (cOpt hi).map fun hi => .slc z.1 a lo hi
    | some .string, none => (cOpt lo).bind fun lo => (cOpt hi).map fun hi => .sls a lo hi
    | some (.slice e), some m => (tyElem P e).bind fun _ => match lo, hi with
      | none, some h => if isConst0 h && isConst0 m then some (.z0 a) else none
      | _, _ => none
    | _, _ => none
  | .fieldAddr t x k => match P.underlying t with
    | some (.struct fs) => (fs[k]?).bind fun f => (P.info? f.type).bind fun i => if i.size = 0 then none else (cOpd x).map (.fld f.offset)
    | _ => none
  | .field t x k => match P.underlying t with
    | some (.struct fs) => (fs[k]?).bind fun f => (tySize P f.type).bind fun s => if s.2 || s.1 == 1 then (cOpd x).map (.prt s.2 f.offset s.1) else none
    | _ => none
  | .indexAddr t x i => match P.underlying t with
    | some (.slice e) => (tyElem P e).bind fun z => (cOpd x).bind fun x => (cOpd i).map fun i => .idx z.1 x i
    | _ => none
  | .index t x i => match P.underlying t with
    | some .string => (cOpd x).bind fun x => (cOpd i).map fun i => .sidx x i
    | _ => none
  | .extract x i => (cOpd x).map fun x => .ext x i
  | .makeSlice t n c => match P.underlying t with
    | some (.slice e) => (tyElem P e).bind fun z => (cOpd n).bind fun n => (cOpd c).map fun c => .mk e z.1 z.2 n c
    | _ => none
  | .makeFunc (.func f) first caps => if first.isEmpty then (cOpds caps.toList).map (.mkfn f) else none
  | .call c => match c.callee with
    | .builtin b => (cOpds c.args.toList).bind fun args => cBuiltin P b c.argTypes args
    | .value f => (cOpd f).bind fun f => (cOpds c.args.toList).map fun args => .call f args
    | _ => none
  | _ => none

/- regions that draw their order -/
def loudI : IOp → Bool
  | .nilrow .. | .new .. | .box .. | .mkrow .. | .store .. | .app .. | .mk .. | .call .. => true
  | _ => false
def modI : IOp → Bool
  | .store .. | .app .. => true
  | _ => false
def readI : IOp → Bool
  | .load .. | .slc .. | .idx .. | .mkrow .. | .store .. | .app .. | .call .. => true
  | _ => false

def opTmps : OP → List Nat
  | .t i => [i]
  | .c _ => []
def optTmps : Option OP → List Nat
  | some x => opTmps x
  | none => []

def useI : IOp → List Nat
  | .mv x | .sid x | .box _ _ x | .load _ _ x | .chk x | .un _ x | .conv _ x | .z0 x | .fld _ x | .prt _ _ _ x | .ext x _ | .len x | .slen x => opTmps x
  | .nilrow .. | .new .. => []
  | .pick c a b => opTmps c ++ opTmps a ++ opTmps b
  | .build _ ps => ps.flatMap fun p => opTmps p.2.2
  | .mkrow _ _ _ _ ps => ps.flatMap fun p => opTmps p.2
  | .store _ x y | .bin _ x y | .aeq _ _ x y | .beq _ x y | .idx _ x y | .sidx x y | .app _ _ x y | .mx x y | .mn x y | .mk _ _ _ x y => opTmps x ++ opTmps y
  | .slc _ x lo hi | .sls x lo hi => opTmps x ++ optTmps lo ++ optTmps hi
  | .mkfn _ caps => caps.flatMap opTmps
  | .call f args => opTmps f ++ args.flatMap opTmps

def gTmps : Option (Nat × Bool) → List Nat
  | some (s, _) => [s]
  | none => []

def useO (o : IOper) : List Nat := useI o.op ++ gTmps o.guard

def confI (a b : IOper) : Bool :=
  (match a.dst with | some d => (useO b).contains d || b.dst == some d | none => false) ||
  (match b.dst with | some d => (useO a).contains d | none => false) ||
  (loudI a.op && loudI b.op) || (modI a.op && readI b.op) || (readI a.op && modI b.op)

/-- the operand through which a quiet operation reads rows -/
def rdOp : IOp → Option OP
  | .load _ _ x => some x
  | .slc _ x _ _ => some x
  | .idx _ x _ => some x
  | _ => none

def noHandle : AV → Bool
  | .ref .. | .bptr .. | .rptr .. => false
  | _ => true

def constOk (o : IOper) : Bool :=
  match rdOp o.op with
  | some (.c v) => noHandle v
  | _ => true

def maskOf (acc : List Nat) (es : List Edge) : Nat := es.foldl (fun s ed => if Region.binds .any ed = true then s ||| 2 ^ ed.on ||| acc.getD ed.on 0 else s) 0

/-- for each operation, the operations that come before it in every order (a bit each) -/
def befs : List Oper → List Nat → List Nat
  | [], acc => acc
  | o :: r, acc => befs r (acc ++ [maskOf acc o.after.toList])

def drawOk (ops : List Oper) (is : List IOper) : Bool :=
  let bf := befs ops []
  is.all constOk && (ops.zipIdx.all fun (o, j) => o.after.toList.all fun ed => !Region.binds .any ed || decide (ed.on < j)) &&
  is.zipIdx.all fun (b, j) => (is.take j).zipIdx.all fun (a, i) => !confI a b || (bf.getD j 0).testBit i

def dstOk (N : Nat) : Option Nat → Bool
  | some d => decide (d < N)
  | none => true

def cOper (P : Program) (N : Nat) (ops : Array Oper) (o : Oper) : Option IOper :=
  (cOp P o).bind fun op => if dstOk N o.dst = true then match o.guard with
    | none => some { dst := o.dst, op, guard := none }
    | some (j, want) => ((ops[j]?).bind (·.dst)).bind fun d => if d < N then some { dst := o.dst, op, guard := some (d, want) } else none
  else none

def cOpers (P : Program) (N : Nat) (ops : Array Oper) : List Oper → Option (List IOper)
  | [] => some []
  | o :: r => (cOper P N ops o).bind fun a => (cOpers P N ops r).map fun l => a :: l

def cCode (P : Program) (N : Nat) : Code → Option IC
  | .skip => some .skip
  | .region _ ops draw => (cOpers P N ops ops.toList).bind fun is => if !draw || drawOk ops.toList is then some (.reg draw is []) else none
  | .seq a b => (cCode P N a).bind fun a => (cCode P N b).map fun b => .seq a b
  | .cond c a b => (cOpd c).bind fun c => (cCode P N a).bind fun a => (cCode P N b).map fun b => .cond c a b
  | .block id b => (cCode P N b).map (.block id)
  | .loop b => (cCode P N b).map (.loop [])
  | .exit id => some (.exit id)
  | .ret => some .ret
  | _ => none

/- what is still read -/
def addL (a : List Nat) : List Nat → List Nat
  | [] => a
  | x :: r => addL (if a.contains x then a else x :: a) r

def liveOps : List IOper → List Nat → List Nat
  | [], l => l
  | o :: r, l => let k := liveOps r l; addL (match o.dst with | some d => k.filter (· != d) | none => k) (useO o)

def findL (id : Nat) : List (Nat × List Nat) → List Nat
  | [] => []
  | (i, l) :: r => if i = id then l else findL id r

def ann (rt : List Nat) : IC → List (Nat × List Nat) → List Nat → IC × List Nat
  | .skip, _, l => (.skip, l)
  | .reg d ops _, _, l => (.reg d ops l, liveOps ops l)
  | .seq a b, xs, l => let b := ann rt b xs l; let a := ann rt a xs b.2; (.seq a.1 b.1, a.2)
  | .cond c a b, xs, l => let a := ann rt a xs l; let b := ann rt b xs l; (.cond c a.1 b.1, addL (addL a.2 b.2) (opTmps c))
  | .block id b, xs, l => let b := ann rt b ((id, l) :: xs) l; (.block id b.1, b.2)
  | .loop _ b, xs, _ =>
    let l1 := (ann rt b xs []).2
    let l2 := (ann rt b xs l1).2
    let l3 := (ann rt b xs l2).2
    (.loop l3 (ann rt b xs l3).1, l3)
  | .exit id, xs, _ => (.exit id, findL id xs)
  | .ret, _, _ => (.ret, rt)

def cRes (P : Program) : List ResultVar → Option (List IRes)
  | [] => some []
  | .tmp t :: r => (cRes P r).map fun l => .tmp t :: l
  | .cell a t :: r => (tySize P t).bind fun s => if s.2 || s.1 == 1 then (cRes P r).map fun l => .cell a s.2 s.1 :: l else none

def resTmp : IRes → Nat
  | .tmp t => t
  | .cell t _ _ => t

def cFn (P : Program) (f : Nat) : Option IFn :=
  (P.funcs[f]?).bind fun fn => (fn.body).bind fun c => (cCode P fn.ntmps c).bind fun ic => (cRes P fn.results.toList).bind fun rs =>
    if fn.params.size + fn.nfree ≤ fn.ntmps ∧ (fn.name == "runtime.NumGoroutine") = false then
      some { N := fn.ntmps, np := fn.params.size + fn.nfree, res := rs, body := (ann (rs.map resTmp) ic [] []).1 }
    else none

end Go.PI
