/- The model's code is brought to the interpreter's form: operation by operation, region by region; each region gets the list of slots that are still read behind it. No condition. -/
import Derived.Test.YtpphfbfmoipoaaaDoorPi2
namespace Go.PI

def cstV0 : Value → Option AV
  | .bool b => some (.bool b)
  | .int k n => some (.int k n)
  | .string s => some (.str s.data.toList)
  | .pointer none => some .nilp
  | .slice none 0 0 => some .e0
  | _ => none

def cstL : List Value → Option (List AV)
  | [] => some []
  | v :: r => (cstV0 v).bind fun a => (cstL r).map fun l => a :: l

def cstV : Value → Option AV
  | .agg cs => (cstL cs.toList).map .agg
  | .tuple ⟨[]⟩ => some (.tup [])
  | v => cstV0 v

/-- what is taken of the program: what package variables hold; which functions are called in the caller's frame -/
structure Cfg where
  G : Nat → Option AV
  op : Nat → Bool
  rr : Bool
  cl : Nat → Bool := fun _ => false

section
variable (C : Cfg)
def cOpd : Operand → Option OP
  | .tmp t => some (.t t)
  | .const v => (cstV v).map .c
  | .func f => some (.c (.fn f []))
  | .global g => (C.G g).map fun e => .c (.cptr e 0)

def cOpds : List Operand → Option (List OP)
  | [] => some []
  | x :: r => (cOpd C x).bind fun a => (cOpds r).map fun l => a :: l

def cOpt : Option Operand → Option (Option OP)
  | none => some none
  | some x => (cOpd C x).map some
end

def aggD : TypeDesc → Bool
  | .struct _ => true
  | .array _ _ => true
  | _ => false

/-- size in cells, whether a struct or an array -/
def tySize (P : Program) (t : TypeId) : Option (Nat × Bool) :=
  (P.info? t).bind fun i => (P.underlying t).map fun d => (i.size, aggD d)

/-- an element type: its size, at least one cell, at most 2^17 bytes, its zero -/
def tyElem (P : Program) (t : TypeId) : Option (Nat × AV) :=
  (P.info? t).bind fun i => (i.zero).bind fun z => (cstV z).bind fun a => if okCells a = true ∧ 0 < i.size ∧ i.bytes ≤ 131072 ∧ a.cells.length = i.size ∧ z.cells.size = i.size then some (i.size, a) else none

def places (P : Program) (fs : Array Field) : Option (List (Nat × Nat)) := fs.toList.mapM (fun f => (P.info? f.type).map fun i => (f.offset, i.size))

def cParts (C : Cfg) (pl : List (Nat × Nat)) : List (Nat × Operand) → Option (List (Nat × Nat × OP))
  | [] => some []
  | (k, x) :: r => (pl[k]?).bind fun q => (cOpd C x).bind fun a => (cParts C pl r).map fun l => (q.1, q.2, a) :: l

def cRowParts (C : Cfg) : List (Nat × Operand) → Option (List (Nat × OP))
  | [] => some []
  | (k, x) :: r => (cOpd C x).bind fun a => (cRowParts C r).map fun l => (k, a) :: l

def ckOf (P : Program) (t : TypeId) : Option CK :=
  match P.underlying t with
  | some (.int _) => some .i
  | some .bool => some .b
  | some .string => some .s
  | _ => none

/-- a struct whose parts are all plain: its == compares cell by cell -/
def eqPlain (P : Program) : Nat → List Field → Option (List CK)
  | _, [] => some []
  | i, f :: r => if f.name ≠ "_" ∧ f.offset = i then (ckOf P f.type).bind fun k => (eqPlain P (i + 1) r).map fun l => k :: l else none

def isConst0 : Operand → Bool
  | .const (.int _ n) => n == 0
  | _ => false

def cBuiltin (P : Program) (b : Builtin) (ts : Array TypeId) (args : List OP) : Option IOp :=
  match b, args with
  | .len, [x] => (ts[0]?).bind fun t => match P.underlying t with
    | some (.slice _) => some (.len x)
    | some .string => some (.slen x)
    | _ => none
  | .append, [x, y] => (ts[0]?).bind fun t => (ts[1]?).bind fun u => match P.underlying t with
    | some (.slice e) => if t = u ∧ ts.size = 2 then (tyElem P e).map fun z => .app e z.1 x y else none
    | _ => none
  | .max, [x, y] => some (.mx x y)
  | .min, [x, y] => some (.mn x y)
  | .clear, [x] => (ts[0]?).bind fun t => match P.underlying t with
    | some (.slice e) => (tyElem P e).map fun z => .clr z.1 z.2 x
    | _ => none
  | _, _ => none

/-- how an operation is taken: 'im': a row that is made to be appended at once; 'at_': in a region that draws its order, variables get their places ahead; 'ds': the slots that the region fills; 'al': those of them that hold its new variables -/
structure Md where
  im : Bool
  at_ : Bool
  ds : List Nat
  al : List Nat

/-- a row that is made to be appended or handed over at once -/
def appTmp (C : Cfg) (at_ : Bool) (d : Nat) (o : Oper) : Bool :=
  match o.op with
  | .call ⟨.builtin .append, args, _⟩ => (match (args[1]? : Option Operand) with
    | some (.tmp t) => t == d
    | _ => false)
  | .call ⟨.value f, args, _⟩ => (match f with
    | .func k => at_ || !C.op k
    | _ => true) && args.any fun x => match x with
    | .tmp t => t == d
    | _ => false
  | _ => false
def isTmp (C : Cfg) (at_ : Bool) (ops : Array Oper) (o : Oper) : Bool :=
  match o.dst with
  | some d => ops.any (appTmp C at_ d)
  | none => false

/-- a slot that gets a new variable -/
def newDst (o : Oper) : Option Nat :=
  match o.op with
  | .alloc _ => o.dst
  | _ => none

/-- a slot that the region does not fill -/
def outside (ds : List Nat) : OP → Bool
  | .t i => !ds.contains i
  | .c _ => false

def isNilC : Operand → Bool
  | .const (.slice none 0 0) => true
  | _ => false

/-- a call in the caller's frame: of a function value, or of a function that is named for it -/
def isOpen (C : Cfg) : OP → Bool
  | .c (.fn f _) => C.op f
  | _ => true

/-- a call in the caller's frame that closes rows of rows that are handed to it -/
def isCl (C : Cfg) : OP → Bool
  | .c (.fn f _) => C.cl f
  | _ => false

/-- a struct of a pointer and a slice, both nil: a strings.Builder -/
def bldTy (P : Program) (t : TypeId) (z : Nat × AV) : Option Nat :=
  match z with
  | (2, .agg [.nilp, .e0]) => match P.underlying t with
    | some (.struct fs) => (fs[1]?).bind fun f => match P.underlying f.type with
      | some (.slice el) => some el
      | _ => none
    | _ => none
  | _ => none

def cOp0 (P : Program) (C : Cfg) (im : Md) (o : Oper) : Option IOp :=
  match o.op with
  | .move x => (cOpd C x).map .mv
  | .assign x => match x with
    | .const (.slice none 0 0) => match P.underlying o.type with
      | some (.slice e) => (tyElem P e).map fun z => .nilrow e z.1
      | _ => some (.mv (.c .e0))
    | x => (cOpd C x).map .mv
  | .pick c a b => (cOpd C c).bind fun c => (cOpd C a).bind fun a => (cOpd C b).map fun b => .pick c a b
  | .alloc t => (tyElem P t).bind fun z => if im.at_ then o.dst.map fun d => .newAt d t z.1 z.2 else match bldTy P t z with | some el => some (.newb t el) | none => some (.new t z.1 z.2)
  | .box t x => (tySize P t).bind fun s => (cOpd C x).map fun x => .box t s.1 x
  | .build t ps => match P.underlying t with
    | some (.struct fs) => (tyElem P t).bind fun z => (places P fs).bind fun pl => (cParts C pl ps.toList).map fun ps => .build z.2.cells ps
    | some (.array n el) => (tyElem P t).bind fun z => (P.info? el).bind fun i => (cParts C ((List.range n).map fun k => (k * i.size, i.size)) ps.toList).map fun ps => .build z.2.cells ps
    | _ => none
  | .buildSlice t n ps => match P.underlying t with
    | some (.slice e) => (tyElem P e).bind fun z => if n * z.1 ≤ 16777216 then (cRowParts C ps.toList).map fun ps => if im.im then (if im.at_ && plainE z.2 then .mkpl z.1 n z.2 ps else .mkimm z.1 n z.2 ps) else .mkrow e z.1 n z.2 ps else none
    | _ => none
  | .load t x => (tySize P t).bind fun s => (cOpd C x).bind fun x => if s.2 || s.1 == 1 then some (if im.at_ && outside im.ds x then .loadb s.2 s.1 x else if C.rr && !im.at_ then .loadr s.2 s.1 x else .load s.2 s.1 x) else none
  | .store t x y => (tySize P t).bind fun s => (cOpd C x).bind fun x => (cOpd C y).map fun y => if im.at_ && !outside im.ds x && outside im.al x then .storer s.1 x y else if C.rr && !im.at_ then .storek s.1 x y else .store s.1 x y
  | .nilCheck x => (cOpd C x).map .chk
  | .binOp op t x y0 _ => (cOpd C x).bind fun x => (cOpd C y0).bind fun y => match P.underlying t with
    | some (.struct fs) => (eqPlain P 0 fs.toList).bind fun ks => if P.stoodInHeld t = false ∧ P.eqGuardType P.depth t = false then (match op with | .eql => some (.aeq false ks x y) | .neq => some (.aeq true ks x y) | _ => none) else none
    | some (.int _) => some (.bin op x y)
    | some .string => some (.bin op x y)
    | some .bool => (match op with | .eql => some (.beq false x y) | .neq => some (.beq true x y) | _ => none)
    | some (.slice _) => if isNilC y0 then (match op with | .eql => some (.eqnil false x) | .neq => some (.eqnil true x) | _ => none) else none
    | _ => none
  | .unOp op _ x => (cOpd C x).map (.un op)
  | .convert s d x => match P.underlying s, P.underlying d with
    | some (.int _), some (.int k) => (cOpd C x).map (.conv k)
    | some .string, some .string => (cOpd C x).map .sid
    | some .string, some (.slice el) => (match P.underlying el with | some (.int .u8) => (cOpd C x).map .s2b | _ => none)
    | some (.slice el), some .string => (match P.underlying el with | some (.int .u8) => (tyElem P el).bind fun z => if z.1 = 1 then (cOpd C x).map .b2s else none | _ => none)
    | _, _ => none
  | .slice t x lo hi mx => (cOpd C x).bind fun a => match P.underlying t, mx with
    | some (.slice e), none => (tyElem P e).bind fun z => (cOpt C lo).bind fun lo => (cOpt C hi).map fun hi => .slc z.1 a lo hi
    | some .string, none => (cOpt C lo).bind fun lo => (cOpt C hi).map fun hi => .sls a lo hi
    | some (.slice e), some m => (tyElem P e).bind fun _ => match lo, hi with
      | none, some h => if isConst0 h && isConst0 m then some (.z0 a) else none
      | some l, some h => (cOpd C l).bind fun l => (cOpd C h).bind fun h => (cOpd C m).map fun m => .slc3 a (some l) (some h) (some m)
      | _, _ => none
    | _, _ => none
  | .fieldAddr t x k => match P.underlying t with
    | some (.struct fs) => (fs[k]?).bind fun f => (P.info? f.type).bind fun i => if i.size = 0 then none else (cOpd C x).map (.fld f.offset)
    | _ => none
  | .field t x k => match P.underlying t with
    | some (.struct fs) => (fs[k]?).bind fun f => (tySize P f.type).bind fun s => if s.2 || s.1 == 1 then (cOpd C x).map (.prt s.2 f.offset s.1) else none
    | _ => none
  | .indexAddr t x i => match P.underlying t with
    | some (.slice e) => (tyElem P e).bind fun z => (cOpd C x).bind fun x => (cOpd C i).map fun i => if C.rr && !im.at_ then .idxr z.1 x i else .idx z.1 x i
    | some (.array n e) => (P.info? e).bind fun z => if z.size = 0 then none else (cOpd C x).bind fun x => (cOpd C i).map fun i => .pix n z.size x i
    | _ => none
  | .index t x i => match P.underlying t with
    | some .string => (cOpd C x).bind fun x => (cOpd C i).map fun i => .sidx x i
    | some (.array n e) => (tySize P e).bind fun s => if s.2 || s.1 == 1 then (cOpd C x).bind fun x => (cOpd C i).map fun i => .ait s.2 n s.1 x i else none
    | _ => none
  | .makeMap t r => match P.underlying t with
    | some (.map k _) => (match P.underlying k, r with
      | some (.int .i64), none => some .mkmap
      | _, _ => none)
    | _ => none
  | .lookup t x k ok => match P.underlying t with
    | some (.map kt el) => (match P.underlying kt with
      | some (.int .i64) => (tyElem P el).bind fun z => if plain z.2 then (cOpd C x).bind fun x => (cOpd C k).map fun k => .mlook ok z.2 x k else none
      | _ => none)
    | _ => none
  | .mapUpdate t x k v => match P.underlying t with
    | some (.map kt _) => (match P.underlying kt with
      | some (.int .i64) => (cOpd C x).bind fun x => (cOpd C k).bind fun k => (cOpd C v).map fun v => .mput x k v
      | _ => none)
    | _ => none
  | .range t x => match P.underlying t with
    | some .string => (cOpd C x).map .rstr
    | _ => none
  | .next x true => (cOpd C x).map .nstr
  | .extract x i => (cOpd C x).map fun x => .ext x i
  | .makeSlice t n c => match P.underlying t with
    | some (.slice e) => (tyElem P e).bind fun z => (cOpd C n).bind fun n => (cOpd C c).map fun c => .mk e z.1 z.2 n c
    | _ => none
  | .makeFunc (.func f) first caps => if first.isEmpty then (cOpds C caps.toList).map (.mkfn f) else none
  | .call c => match c.callee with
    | .builtin b => (cOpds C c.args.toList).bind fun args => cBuiltin P b c.argTypes args
    | _ => none
  | _ => none

def IOp.isCall : IOp → Bool
  | .call .. | .ocall .. | .callr .. | .ocallc .. => true
  | _ => false

def cCall (C : Cfg) (f : Operand) (args : List Operand) : Option IOp :=
  (cOpd C f).bind fun f => (cOpds C args).map fun args => if isOpen C f then (if isCl C f then .ocallc f args else .ocall f args) else if C.rr then .callr f args else .call f args

def cOp (P : Program) (C : Cfg) (im : Md) (o : Oper) : Option IOp :=
  match o.op with
  | .call ⟨.value f, args, _⟩ => cCall C f args.toList
  | _ => match cOp0 P C im o with
    | some i => if i.isCall then none else some i
    | none => some .bad

theorem cOp_inv {P : Program} {C : Cfg} {im : Md} {o : Oper} {iop : IOp} (h : cOp P C im o = some iop) :
    (iop.isCall = false ∧ cOp0 P C im o = some iop) ∨ (∃ f args ats, o.op = .call ⟨.value f, args, ats⟩ ∧ cCall C f args.toList = some iop) ∨ iop = .bad := by
  unfold cOp at h
  split at h
  · rename_i f args ats ho
    exact .inr (.inl ⟨f, args, ats, ho, h⟩)
  · split at h
    · rename_i i hi
      split at h
      · cases h
      · rename_i hn
        injection h with h; subst h
        exact .inl ⟨by simpa using hn, hi⟩
    · injection h with h
      exact .inr (.inr h.symm)

/- regions that draw their order -/
/-- the kinds of operations: 'q0': hangs on no row; 'rd', 'ix', 'lb': read rows; 'fz': freezes rows; 'pu': lays new ones; 'na': fills a place that was kept; 'st', 'ap': write; 'ot': all others -/
inductive Cl where
  | q0 | rd | ix | lb | fz | pu | na | st | sr | ap | ot
  deriving DecidableEq

def cls : IOp → Cl
  | .load .. | .slc .. | .eqnil .. | .b2s .. => .rd
  | .idx .. => .ix
  | .loadb .. => .lb
  | .mkimm .. => .fz
  | .nilrow .. | .new .. | .box .. | .mkrow .. | .mk .. | .call .. | .mkmap | .rstr .. | .s2b .. => .pu
  | .newAt .. => .na
  | .store .. => .st
  | .storer .. => .sr
  | .app .. => .ap
  | .callr .. | .ocallc .. | .ocall .. | .loadr .. | .idxr .. | .storek .. | .newb .. | .mlook .. | .mput .. | .nstr .. | .clr .. | .cpy .. | .slc3 .. | .bad => .ot
  | _ => .q0

/-- may the two change places? -/
def clsOk : Cl → Cl → Bool
  | .q0, _ | _, .q0 => true
  | .rd, .rd | .rd, .ix | .rd, .lb | .ix, .rd | .ix, .ix | .ix, .lb | .lb, .rd | .lb, .ix | .lb, .lb => true
  | .rd, .fz | .rd, .pu | .rd, .na | .ix, .fz | .ix, .pu | .ix, .na | .lb, .fz | .lb, .pu | .lb, .na => true
  | .fz, .rd | .pu, .rd | .na, .rd | .fz, .ix | .pu, .ix | .na, .ix | .fz, .lb | .pu, .lb | .na, .lb => true
  | .ix, .st | .st, .ix | .ix, .sr | .sr, .ix | .lb, .sr | .sr, .lb | .lb, .ap | .ap, .lb => true
  | .fz, .pu | .pu, .fz | .na, .pu | .pu, .na | .na, .fz | .fz, .na => true
  | _, _ => false

def opTmps : OP → List Nat
  | .t i => [i]
  | .c _ => []
def optTmps : Option OP → List Nat
  | some x => opTmps x
  | none => []

def useI : IOp → List Nat
  | .mv x | .sid x | .box _ _ x | .load _ _ x | .chk x | .un _ x | .conv _ x | .z0 x | .fld _ x | .prt _ _ _ x | .ext x _ | .len x | .slen x => opTmps x
  | .nilrow .. | .new .. | .newb .. => []
  | .pick c a b => opTmps c ++ opTmps a ++ opTmps b
  | .build _ ps => ps.flatMap fun p => opTmps p.2.2
  | .mkrow _ _ _ _ ps => ps.flatMap fun p => opTmps p.2
  | .mkimm _ _ _ ps => ps.flatMap fun p => opTmps p.2
  | .store _ x y | .bin _ x y | .aeq _ _ x y | .beq _ x y | .idx _ x y | .sidx x y | .app _ _ x y | .mx x y | .mn x y | .mk _ _ _ x y => opTmps x ++ opTmps y
  | .slc _ x lo hi | .sls x lo hi => opTmps x ++ optTmps lo ++ optTmps hi
  | .mkfn _ caps => caps.flatMap opTmps
  | .call f args | .ocall f args | .callr f args | .ocallc f args => opTmps f ++ args.flatMap opTmps
  | .bad | .newAt .. | .mkmap => []
  | .loadb _ _ x | .loadr _ _ x | .eqnil _ x | .rstr x | .nstr x | .b2s x | .clr _ _ x | .s2b x => opTmps x
  | .mkpl _ _ _ ps => ps.flatMap fun p => opTmps p.2
  | .storer _ x y | .storek _ x y | .idxr _ x y | .pix _ _ x y | .ait _ _ _ x y | .mlook _ _ x y | .cpy _ x y => opTmps x ++ opTmps y
  | .mput x y z => opTmps x ++ opTmps y ++ opTmps z
  | .slc3 x lo hi mx => opTmps x ++ optTmps lo ++ optTmps hi ++ optTmps mx

def gTmps : Option (Nat × Bool) → List Nat
  | some (s, _) => [s]
  | none => []

def useO (o : IOper) : List Nat := useI o.op ++ gTmps o.guard

/-- neither uses what the other fills -/
def depFree (a b : IOper) : Bool :=
  (match a.dst with | some d => !(useO b).contains d && b.dst != some d | none => true) &&
  (match b.dst with | some d => !(useO a).contains d | none => true)

def okSwap (a b : IOper) : Bool := depFree a b && clsOk (cls a.op) (cls b.op)

/-- the operands through which an operation looks at rows -/
def rdOps : IOp → List OP
  | .load _ _ x | .slc _ x _ _ | .idx _ x _ | .eqnil _ x | .b2s x | .loadb _ _ x => [x]
  | .mkimm _ _ _ ps | .mkrow _ _ _ _ ps => ps.map (·.2)
  | .call _ args => args
  | _ => []

def noHandle : AV → Bool
  | .ref .. | .bptr .. | .rptr .. | .mp .. | .itr .. | .agg _ | .tup _ | .fn _ (_ :: _) => false
  | _ => true

def constOk (o : IOper) : Bool :=
  (rdOps o.op).all fun x => match x with
  | .c v => noHandle v
  | _ => true

def maskOf (acc : List Nat) (es : List Edge) : Nat := es.foldl (fun s ed => if Region.binds .any ed = true then s ||| 2 ^ ed.on ||| acc.getD ed.on 0 else s) 0

/-- for each operation, the operations that come before it in every order (a bit each) -/
def befs : List Oper → List Nat → List Nat
  | [], acc => acc
  | o :: r, acc => befs r (acc ++ [maskOf acc o.after.toList])

def drawOk (ops : List Oper) (is : List IOper) : Bool :=
  let bf := befs ops []
  is.all constOk && (ops.zipIdx.all fun (o, j) => o.after.toList.all fun ed => !Region.binds .any ed || decide (ed.on < j)) &&
  is.zipIdx.all fun (b, j) => (is.take j).zipIdx.all fun (a, i) => okSwap a b || (bf.getD j 0).testBit i

def dstOk (N : Nat) : Option Nat → Bool
  | some d => decide (d < N)
  | none => true

def cOper (P : Program) (C : Cfg) (N : Nat) (at_ : Bool) (ops : Array Oper) (o : Oper) : Option IOper :=
  (cOp P C ⟨isTmp C at_ ops o, at_, ops.toList.filterMap (·.dst), ops.toList.filterMap newDst⟩ o).bind fun op => if dstOk N o.dst = true then match o.guard with
    | none => some { dst := o.dst, op, guard := none }
    | some (j, want) => ((ops[j]?).bind (·.dst)).bind fun d => if d < N then some { dst := o.dst, op, guard := some (d, want) } else none
  else none

def cOpers (P : Program) (C : Cfg) (N : Nat) (at_ : Bool) (ops : Array Oper) : List Oper → Option (List IOper)
  | [] => some []
  | o :: r => (cOper P C N at_ ops o).bind fun a => (cOpers P C N at_ ops r).map fun l => a :: l

def tagsOf (is : List IOper) : List Nat := is.filterMap fun o => match o.op with
  | .newAt d .. => some d
  | _ => none

/- a region whose operations do not all commute: every order is tried, but that an operation goes first at once where it may change places with all that is left -/
inductive DX where
  | nil
  | op (j : Nat) (r : DX)
  | br (a b : DX)
  deriving Inhabited

def DX.toDT (is : List IOper) : DX → DT
  | .nil => .nil
  | .op j r => .op (is.getD j default) (r.toDT is)
  | .br a b => .br (a.toDT is) (b.toDT is)

def DX.heads : DX → List Nat
  | .nil => []
  | .op j _ => [j]
  | .br a b => a.heads ++ b.heads

/-- may go first -/
def movable (is : List IOper) (bf un : List Nat) (j : Nat) : Bool := un.all fun i => i == j || okSwap (is.getD j default) (is.getD i default) || (bf.getD i 0).testBit j
def readyU (bf un : List Nat) (k : Nat) : Bool := un.all fun i => !(bf.getD k 0).testBit i

def dtOk (is : List IOper) (bf : List Nat) : Bool → List Nat → DX → Bool
  | m, un, .nil => m && un.isEmpty
  | m, un, .op j r => un.contains j && (!m || movable is bf un j) && dtOk is bf true (un.filter (· != j)) r
  | m, un, .br a b => !un.isEmpty && (!m || un.all fun k => !readyU bf un k || (a.heads ++ b.heads).contains k) && dtOk is bf false un a && dtOk is bf false un b

def dtChk (ops : List Oper) (is : List IOper) (t : DX) : Bool :=
  is.all constOk && (ops.zipIdx.all fun (o, j) => o.after.toList.all fun ed => !Region.binds .any ed || decide (ed.on < j)) && dtOk is (befs ops []) true (List.range is.length) t

def brs : List DX → DX
  | [] => .nil
  | [a] => a
  | a :: r => .br a (brs r)

def mkDX (is : List IOper) (bf : List Nat) : Nat → List Nat → DX
  | 0, _ => .nil
  | k + 1, un => match un with
    | [] => .nil
    | _ => match un.find? fun j => readyU bf un j && movable is bf un j with
      | some j => .op j (mkDX is bf k (un.filter (· != j)))
      | none => brs ((un.filter (readyU bf un)).map fun j => .op j (mkDX is bf k (un.filter (· != j))))

def DX.size : DX → Nat
  | .nil => 1
  | .op _ r => r.size + 1
  | .br a b => a.size + b.size

def cCode (P : Program) (C : Cfg) (N : Nat) : Code → Option IC
  | .skip => some .skip
  | .region _ ops draw => match cOpers P C N false ops ops.toList with
    | some is => if draw = false ∨ drawOk ops.toList is = true then some (.reg draw [] is []) else match cOpers P C N true ops ops.toList with
      | some is' => if drawOk ops.toList is' = true then some (.reg draw (tagsOf is') is' []) else
          if draw = true ∧ dtChk ops.toList is (mkDX is (befs ops.toList []) is.length (List.range is.length)) = true then some (.rega ((mkDX is (befs ops.toList []) is.length (List.range is.length)).toDT is) []) else some .bad
      | none => some .bad
    | none => some .bad
  | .seq a b => (cCode P C N a).bind fun a => (cCode P C N b).map fun b => .seq a b
  | .cond c a b => match cOpd C c with
    | some c => (cCode P C N a).bind fun a => (cCode P C N b).map fun b => .cond c a b
    | none => some .bad
  | .block id b => (cCode P C N b).map (.block id)
  | .loop b => (cCode P C N b).map (.loop [])
  | .exit id => some (.exit id)
  | .ret => some .ret
  | .scope b => (cCode P C N b).map .scope
  | .label _ => some .skip
  | _ => some .bad

/- what is still read -/
def addL (a : List Nat) : List Nat → List Nat
  | [] => a
  | x :: r => addL (if a.contains x then a else x :: a) r

def liveOps : List IOper → List Nat → List Nat
  | [], l => l
  | o :: r, l => let k := liveOps r l; addL (match o.dst with | some d => k.filter (· != d) | none => k) (useO o)

def useDT : DT → List Nat → List Nat
  | .nil, l => l
  | .op o r, l => addL (useDT r l) (useO o)
  | .br a b, l => useDT a (useDT b l)

/-- in a long list every eighth operation says what is still read -/
def markL (n : Nat) : List IOper → List Nat → List IOper
  | [], _ => []
  | o :: r, l => (if n % 8 = 7 ∧ r.isEmpty = false then { o with live := some (liveOps r l) } else o) :: markL (n + 1) r l

def findL (id : Nat) : List (Nat × List Nat) → List Nat
  | [] => []
  | (i, l) :: r => if i = id then l else findL id r

def ann (rt : List Nat) : IC → List (Nat × List Nat) → List Nat → IC × List Nat
  | .skip, _, l => (.skip, l)
  | .reg d t ops _, _, l => (.reg d t (if d || decide (ops.length < 12) then ops else markL 0 ops l) l, liveOps ops l)
  | .seq a b, xs, l => let b := ann rt b xs l; let a := ann rt a xs b.2; (.seq a.1 b.1, a.2)
  | .cond c a b, xs, l => let a := ann rt a xs l; let b := ann rt b xs l; (.cond c a.1 b.1, addL (addL a.2 b.2) (opTmps c))
  | .block id b, xs, l => let b := ann rt b ((id, l) :: xs) l; (.block id b.1, b.2)
  | .loop _ b, xs, _ =>
    let l1 := (ann rt b xs []).2
    let l2 := (ann rt b xs l1).2
    let l3 := (ann rt b xs l2).2
    (.loop l3 (ann rt b xs l3).1, l3)
  | .exit id, xs, _ => (.exit id, findL id xs)
  | .ret, _, _ => (.ret, rt)
  | .bad, _, _ => (.bad, [])
  | .scope b, xs, l => let b := ann rt b xs l; (.scope b.1, b.2)
  | .rega t _, _, l => (.rega t l, useDT t l)

def cRes (P : Program) : List ResultVar → Option (List IRes)
  | [] => some []
  | .tmp t :: r => (cRes P r).map fun l => .tmp t :: l
  | .cell a t :: r => (tySize P t).bind fun s => if s.2 || s.1 == 1 then (cRes P r).map fun l => .cell a s.2 s.1 :: l else none

def resTmp : IRes → Nat
  | .tmp t => t
  | .cell t _ _ => t

def cFn (P : Program) (C : Cfg) (f : Nat) : Option IFn :=
  (P.funcs[f]?).bind fun fn => (fn.body).bind fun c => (cCode P C fn.ntmps c).bind fun ic => (cRes P fn.results.toList).bind fun rs =>
    if fn.params.size + fn.nfree ≤ fn.ntmps ∧ (fn.name == "runtime.NumGoroutine") = false then
      some { N := fn.ntmps, np := fn.params.size + fn.nfree, res := rs, body := (ann (rs.map resTmp) ic [] []).1 }
    else none

end Go.PI
