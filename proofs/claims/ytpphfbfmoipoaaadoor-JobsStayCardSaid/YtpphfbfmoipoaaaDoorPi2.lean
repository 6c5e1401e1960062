/- The interpreter 'PI': what it runs (a simple form of the model's code), how, and how the model's code is brought to that form. No condition. -/
import Derived.Test.YtpphfbfmoipoaaaDoorPi1
namespace Go.PI

inductive OP where
  | t (i : Nat)
  | c (v : AV)
  deriving Inhabited

inductive CK where
  | i | b | s
  deriving Inhabited

inductive IOp where
  | mv (x : OP)
  | nilrow (T s : Nat)
  | pick (c a b : OP)
  | new (T s : Nat) (z : AV)
  | box (T s : Nat) (x : OP)
  | build (z : List AV) (parts : List (Nat × Nat × OP))
  | mkrow (T s n : Nat) (z : AV) (parts : List (Nat × OP))
  | mkimm (s n : Nat) (z : AV) (parts : List (Nat × OP))
  | load (ag : Bool) (n : Nat) (x : OP)
  | store (n : Nat) (x y : OP)
  | chk (x : OP)
  | bin (op : BinOp) (x y : OP)
  | aeq (neg : Bool) (ks : List CK) (x y : OP)
  | beq (neg : Bool) (x y : OP)
  | sid (x : OP)
  | un (op : UnOp) (x : OP)
  | conv (k : IntKind) (x : OP)
  | slc (s : Nat) (x : OP) (lo hi : Option OP)
  | sls (x : OP) (lo hi : Option OP)
  | z0 (x : OP)
  | fld (off : Nat) (x : OP)
  | prt (ag : Bool) (off n : Nat) (x : OP)
  | idx (s : Nat) (x i : OP)
  | sidx (x i : OP)
  | ext (x : OP) (i : Nat)
  | len (x : OP)
  | slen (x : OP)
  | app (T s : Nat) (x y : OP)
  | mx (x y : OP)
  | mn (x y : OP)
  | mk (T s : Nat) (z : AV) (n c : OP)
  | mkfn (f : Nat) (caps : List OP)
  | call (f : OP) (args : List OP)
  | ocall (f : OP) (args : List OP)
  | bad
  | newAt (tag T s : Nat) (z : AV)
  | loadb (ag : Bool) (n : Nat) (x : OP)
  | storer (n : Nat) (x y : OP)
  | mkpl (s n : Nat) (z : AV) (parts : List (Nat × OP))
  | eqnil (neg : Bool) (x : OP)
  | pix (n s : Nat) (x i : OP)
  | ait (ag : Bool) (n s : Nat) (x i : OP)
  | mkmap
  | mlook (ok : Bool) (z : AV) (x k : OP)
  | mput (x k v : OP)
  | rstr (x : OP)
  | nstr (x : OP)
  | b2s (x : OP)
  | clr (s : Nat) (z : AV) (x : OP)
  | cpy (s : Nat) (x y : OP)
  | slc3 (x : OP) (lo hi mx : Option OP)
  | s2b (x : OP)
  | newb (T el : Nat)
  | loadr (ag : Bool) (n : Nat) (x : OP)
  | idxr (s : Nat) (x i : OP)
  | storek (n : Nat) (x y : OP)
  | callr (f : OP) (args : List OP)
  | ocallc (f : OP) (args : List OP)
  deriving Inhabited

structure IOper where
  dst : Option Nat
  op : IOp
  guard : Option (Nat × Bool)
  live : Option (List Nat) := none
  deriving Inhabited

/-- the orders of a region that are tried: an operation that may go first whatever is left; or two ways that must agree -/
inductive DT where
  | nil
  | op (o : IOper) (r : DT)
  | br (a b : DT)
  deriving Inhabited

/-- without the list of what is still read -/
def IOper.bare (o : IOper) : IOper := { o with live := none }

inductive IC where
  | skip
  | reg (draw : Bool) (tags : List Nat) (ops : List IOper) (keep : List Nat)
  | seq (a b : IC)
  | cond (c : OP) (a b : IC)
  | block (id : Nat) (b : IC)
  | loop (keep : List Nat) (b : IC)
  | exit (id : Nat)
  | ret
  | bad
  | scope (b : IC)
  | rega (t : DT) (keep : List Nat)
  deriving Inhabited

inductive IRes where
  | tmp (t : Nat)
  | cell (t : Nat) (ag : Bool) (n : Nat)
  deriving Inhabited

structure IFn where
  N : Nat
  np : Nat
  res : List IRes
  body : IC
  deriving Inhabited

abbrev Env := List (Nat × AV)

def Env.get : Env → Nat → AV
  | [], _ => .top
  | (j, v) :: r, i => if j = i then v else Env.get r i

def Env.put (e : Env) (d : Option Nat) (v : AV) : Env :=
  match d with
  | some i => (i, v) :: e
  | none => e

def scrub (keep : List Nat) (e : Env) : Env := keep.map fun i => (i, e.get i)

/-- what is still read is kept, where a list says so -/
def scr (l : Option (List Nat)) (e : Env) : Env :=
  match l with
  | some k => scrub k e
  | none => e

def OP.ev (e : Env) : OP → AV
  | .t i => e.get i
  | .c v => v

/- reading -/
def rdRow (H : List AO) (id g : Nat) : Option (Nat × List AV) :=
  match H[id]? with
  | some (.row _ s g' es) => if g' = g then some (s, es) else none
  | some (.fz s g' es) => if g' = g then some (s, es) else none
  | _ => none

def elems (H : List AO) (s : Nat) : AV → Option (List AV)
  | .e0 => some []
  | .nils => some []
  | .en => some []
  | .sl s' es => if s' = s then some es else none
  | .ref id g o n => (rdRow H id g).bind fun r => if r.1 = s then some ((r.2.drop o).take n) else none
  | .itr id => match H[id]? with
    | some (.obj (.bb l)) => if s = 1 then some (l.map fun b => .int .u8 b.toNat) else none
    | _ => none
  | _ => none

def alen : AV → Option Nat
  | .e0 => some 0
  | .nils => some 0
  | .en => some 0
  | .sl _ es => some es.length
  | .ref _ _ _ n => some n
  | _ => none

def part (ag : Bool) (o n : Nat) (cs : List AV) : Option AV :=
  if ag then (if o + n ≤ cs.length then some (.agg ((cs.drop o).take n)) else none) else cs[o]?

/-- the element that a pointer points into, and where in it -/
def pelem (H : List AO) : AV → Option (AV × Nat)
  | .cptr e o => some (e, o)
  | .bptr id o => match H[id]? with
    | some (.box _ _ e) => some (e, o)
    | _ => none
  | .rptr id g i o => (rdRow H id g).bind fun r => r.2[i]?.map fun e => (e, o)
  | _ => none

def aload (ag : Bool) (n : Nat) (H : List AO) (p : AV) : Option AV := (pelem H p).bind fun r => part ag r.2 n r.1.cells

/- handles of the frame -/
def conv0 (H : List AO) : AV → AV
  | .ref id g o n => match rdRow H id g with
    | some r => .sl r.1 ((r.2.drop o).take n)
    | none => .top
  | .bptr .. => .top
  | .rptr .. => .top
  | .agg _ => .top
  | .tup _ => .top
  | .fn f [] => .fn f []
  | .fn _ (_ :: _) => .top
  | .mp _ => .top
  | .itr _ => .top
  | v => v

def conv1 (H : List AO) : AV → AV
  | .agg cs => .agg (cs.map (conv0 H))
  | .fn f cs => .fn f (cs.map (conv0 H))
  | v => conv0 H v

def refs0 : AV → List Nat
  | .ref id _ _ _ => [id]
  | _ => []

def refs1 : AV → List Nat
  | .agg cs => cs.flatMap refs0
  | .fn _ cs => cs.flatMap refs0
  | v => refs0 v

def frz : List Nat → List AO → List AO
  | [], H => H
  | i :: r, H => match H[i]? with
    | some (.row _ s g es) => frz r (H.set i (.fz s g es))
    | _ => frz r H

def shift0 (k : Nat) : AV → AV
  | .ref id g o n => .ref (k + id) g o n
  | v => v

def shift1 (k : Nat) : AV → AV
  | .agg cs => .agg (cs.map (shift0 k))
  | v => shift0 k v

def shift2 (k : Nat) : AV → AV
  | .tup vs => .tup (vs.map (shift1 k))
  | v => shift1 k v

/- writing -/
def scal : AV → Bool
  | .top | .agg _ | .tup _ => false
  | _ => true

def okCells : AV → Bool
  | .agg _ => true
  | v => scal v

def lone : AV → AV
  | .agg _ => .top
  | v => v

def spl {α : Type} (l : List α) (o : Nat) (m : List α) : List α := l.take o ++ m ++ l.drop (o + m.length)

def splice (e : AV) (o : Nat) (cs : List AV) : AV :=
  match e with
  | .agg ds => .agg (spl ds o cs)
  | _ => match cs with
    | [c] => lone c
    | _ => .top

def astore (n : Nat) (H : List AO) (p v : AV) : Option (List AO) :=
  match p with
  | .bptr id o => match H[id]? with
    | some (.box T s e) => if okCells v = true ∧ v.cells.length = n ∧ o + n ≤ s then some (H.set id (.box T s (splice e o v.cells))) else none
    | _ => none
  | .rptr id g i o => match (frz (refs1 v) H)[id]? with
    | some (.row T s g' es) => if g' = g then match es[i]? with
        | some e => if okCells v = true ∧ v.cells.length = n ∧ o + n ≤ s then some ((frz (refs1 v) H).set id (.row T s g (es.set i (splice e o ((conv1 H v).cells))))) else none
        | none => none
      else none
    | _ => none
  | _ => none

def fillParts (e : Env) : List AV → List (Nat × Nat × OP) → Option (List AV)
  | cs, [] => some cs
  | cs, (off, size, x) :: r =>
    let v := x.ev e
    if okCells v = true ∧ v.cells.length = size ∧ off + size ≤ cs.length then fillParts e (spl cs off v.cells) r else none

def fillRow (s : Nat) (e : Env) (H : List AO) : List AV → List (Nat × OP) → Option (List AV)
  | es, [] => some es
  | es, (i, x) :: r =>
    let v := x.ev e
    if okCells v = true ∧ v.cells.length = s ∧ i < es.length then fillRow s e H (es.set i (conv1 H v)) r else none

def rowRefs (e : Env) : List (Nat × OP) → List Nat
  | [] => []
  | (_, x) :: r => refs1 (x.ev e) ++ rowRefs e r

def maxRow : Nat := 1073741824

def aapp0 (T s : Nat) (H : List AO) (x : AV) (news : List AV) : Option (AV × List AO) :=
  match x with
  | .e0 => if news.length ≤ maxRow then (match news with
      | [] => some (.e0, H)
      | _ => some (.ref H.length 0 0 news.length, H ++ [.row T s 0 news])) else none
  | .ref id g o n => match H[id]? with
    | some (.row T' s' g' es) => if g' = g ∧ T' = T ∧ s' = s ∧ o = 0 ∧ n = es.length ∧ es.length + news.length ≤ maxRow then
        some (.ref id (g + 1) 0 (es.length + news.length), H.set id (.row T s (g + 1) (es ++ news))) else none
    | _ => none
  | _ => none

/-- an append into what the row holds already -/
def aappIn (T s : Nat) (H : List AO) (x : AV) (news : List AV) : Option (AV × List AO) :=
  match x with
  | .ref id g o n => match H[id]? with
    | some (.row T' s' g' es) => if g' = g ∧ T' = T ∧ s' = s ∧ o = 0 ∧ n + news.length ≤ es.length then
        some (.ref id g 0 (n + news.length), H.set id (.row T s g (spl es n news))) else none
    | _ => none
  | _ => none

def aapp (T s : Nat) (H : List AO) (x : AV) (news : List AV) : Option (AV × List AO) :=
  match aapp0 T s H x news with
  | some r => some r
  | none => aappIn T s H x news

/- numbers, strings -/
def abits (op : BinOp) (k : IntKind) (x y : Int) : Int :=
  let a := BitVec.ofInt k.bits x
  let b := BitVec.ofInt k.bits y
  k.wrap (match op with
  | .and => (a &&& b).toNat
  | .or => (a ||| b).toNat
  | .xor => (a ^^^ b).toNat
  | _ => (a &&& ~~~b).toNat)

def aint (op : BinOp) (k : IntKind) (a b : Int) : Option AV :=
  match op with
  | .add => some (.int k (k.wrap (a + b)))
  | .sub => some (.int k (k.wrap (a - b)))
  | .mul => some (.int k (k.wrap (a * b)))
  | .quo => if b = 0 then none else some (.int k (k.wrap (a.tdiv b)))
  | .rem => if b = 0 then none else some (.int k (a.tmod b))
  | .and => some (.int k (abits .and k a b))
  | .or => some (.int k (abits .or k a b))
  | .xor => some (.int k (abits .xor k a b))
  | .andNot => some (.int k (abits .andNot k a b))
  | .eql => some (.bool (a == b))
  | .neq => some (.bool (a != b))
  | .lss => some (.bool (decide (a < b)))
  | .leq => some (.bool (decide (a ≤ b)))
  | .gtr => some (.bool (decide (b < a)))
  | .geq => some (.bool (decide (b ≤ a)))
  | _ => none

def maxStr : Nat := 1099511627776

def astr (op : BinOp) (a b : List UInt8) : Option AV :=
  match op with
  | .add => if a.length + b.length ≤ maxStr then some (.str (a ++ b)) else none
  | .eql => some (.bool (a == b))
  | .neq => some (.bool (!(a == b)))
  | .lss => some (.bool (Op.bytesLess a b))
  | .leq => some (.bool (Op.bytesLess a b || a == b))
  | .gtr => some (.bool (!(Op.bytesLess a b || a == b)))
  | .geq => some (.bool (!(Op.bytesLess a b)))
  | _ => none

def abin (op : BinOp) : AV → AV → Option AV
  | .int k a, .int k' b => match op with
    | .shl => if b < 0 then none else some (.int k (k.wrap (a * 2 ^ (min b.toNat k.bits))))
    | .shr => if b < 0 then none else some (.int k (a.fdiv (2 ^ (min b.toNat k.bits))))
    | op => if k = k' then aint op k a b else none
  | .str a, .str b => astr op a b
  | _, _ => none

def ceq : CK → AV → AV → Option Bool
  | .i, .int k a, .int k' b => if k = k' then some (a == b) else none
  | .s, .str a, .str b => some (a == b)
  | .b, .bool a, .bool b => some (a == b)
  | _, _, _ => none

def ceqs : List CK → List AV → List AV → Option Bool
  | [], [], [] => some true
  | k :: ks, c :: cs, d :: ds => (ceq k c d).bind fun b => (ceqs ks cs ds).map fun r => b && r
  | _, _, _ => none

def aun (op : UnOp) : AV → Option AV
  | .int k n => match op with
    | .neg => some (.int k (k.wrap (0 - n)))
    | _ => none
  | .bool b => match op with
    | .not => some (.bool (!b))
    | _ => none
  | _ => none

def natOf : AV → Option Nat
  | .int _ n => if 0 ≤ n then some n.toNat else none
  | _ => none

def bnds (e : Env) (len : Nat) (lo hi : Option OP) : Option (Nat × Nat) :=
  (match lo with
    | none => some 0
    | some x => natOf (x.ev e)).bind fun l => (match hi with
    | none => some len
    | some x => natOf (x.ev e)).bind fun h => if l ≤ h ∧ h ≤ len then some (l, h) else none

/-- the bounds of a slice of a slice: up to the length, or up to what the row holds -/
def bndc (e : Env) (len cap : Nat) (lo hi : Option OP) : Option (Nat × Nat) :=
  (match lo with
    | none => some 0
    | some x => natOf (x.ev e)).bind fun l => (match hi with
    | none => some len
    | some x => natOf (x.ev e)).bind fun h => if l ≤ h ∧ (h ≤ len ∨ h ≤ cap) then some (l, h) else none

def acap (H : List AO) (len : Nat) : AV → Nat
  | .ref id g o n => if o = 0 ∨ 0 < n then (match rdRow H id g with | some r => r.2.length - o | none => len) else len
  | _ => len

def aslc (s l h : Nat) (H : List AO) : AV → Option AV
  | .e0 => some .e0
  | .nils => some .nils
  | .en => some .en
  | .sl s' es => if s' = s then some (.sl s ((es.drop l).take (h - l))) else none
  | .ref id g o _ => (rdRow H id g).bind fun r => if r.1 = s then some (.ref id g (o + l) (h - l)) else none
  | _ => none

def aidx (s i : Nat) (H : List AO) : AV → Option AV
  | .sl s' es => if s' = s then es[i]?.map fun e => .cptr e 0 else none
  | .ref id g o n => (rdRow H id g).bind fun r => if r.1 = s ∧ i < n then some (.rptr id g (o + i) 0) else none
  | _ => none

def afld (off : Nat) : AV → Option AV
  | .cptr e o => some (.cptr e (o + off))
  | .bptr id o => some (.bptr id (o + off))
  | .rptr id g i o => some (.rptr id g i (o + off))
  | _ => none

def achk : AV → Option AV
  | .cptr e o => some (.cptr e o)
  | .bptr id o => some (.bptr id o)
  | .rptr id g i o => some (.rptr id g i o)
  | _ => none

def plain : AV → Bool
  | .bool _ | .int _ _ | .str _ => true
  | _ => false

def plainR : AV → Bool
  | .tup vs => vs.all plain
  | v => plain v

/- maps, iterators, bytes -/
def mset : List (Int × AV) → Int → AV → List (Int × AV)
  | [], k, v => [(k, v)]
  | (j, u) :: r, k, v => if j = k then (j, v) :: r else (j, u) :: mset r k v

def mgetD (z : AV) : List (Int × AV) → Int → AV × Bool
  | [], _ => (z, false)
  | (j, u) :: r, k => if j = k then (u, true) else mgetD z r k

def bytesOf : List AV → Option (List UInt8)
  | [] => some []
  | .int .u8 n :: r => (bytesOf r).map fun l => UInt8.ofNat n.toNat :: l
  | _ :: _ => none

/-- the last place that is kept for a variable -/
def rsvIdx (tag : Nat) : List AO → Option Nat
  | [] => none
  | o :: r => match rsvIdx tag r with
    | some i => some (i + 1)
    | none => match o with
      | .rsv t => if t = tag then some 0 else none
      | _ => none

def aeqnil (H : List AO) : AV → Option Bool
  | .nils => some true
  | .en => some false
  | .sl _ (_ :: _) => some false
  | .ref id g _ (_ + 1) => (rdRow H id g).map fun _ => false
  | _ => none

/-- the row that a slice covers, to be written -/
def wrow (H : List AO) (s : Nat) : AV → Option (Nat × Nat × Nat × Nat × Nat × List AV)
  | .ref id g o n => match H[id]? with
    | some (.row T s' g' es) => if g' = g ∧ s' = s ∧ o + n ≤ es.length then some (id, T, g, o, n, es) else none
    | _ => none
  | _ => none

/-- an element of which nothing is known -/
def tops (s : Nat) : AV := if s = 1 then .top else .agg (List.replicate s .top)

def isE : AV → Bool
  | .e0 | .nils | .en => true
  | .sl _ [] => true
  | .ref _ _ _ 0 => true
  | _ => false

/-- nothing that hangs on rows -/
def plainE : AV → Bool
  | .agg cs => cs.all plain
  | v => plain v

def fillPl (s : Nat) (e : Env) : List AV → List (Nat × OP) → Option (List AV)
  | es, [] => some es
  | es, (i, x) :: r =>
    let v := x.ev e
    if plainE v = true ∧ v.cells.length = s ∧ i < es.length then fillPl s e (es.set i v) r else none

def bnd1 (e : Env) (d : Nat) : Option OP → Option Nat
  | none => some d
  | some x => natOf (x.ev e)

/-- a slice that can be read -/
def rdb (H : List AO) : AV → Bool
  | .ref id g _ _ => (rdRow H id g).isSome
  | _ => true

/-- a row of the frame, of either kind -/
def rdO (H : List AO) (id g : Nat) : Option (Nat × Nat × List AV) :=
  match H[id]? with
  | some (.row T s g' es) => if g' = g then some (T, s, es) else none
  | some (.rr T s g' es) => if g' = g then some (T, s, es) else none
  | _ => none
def pelemR (H : List AO) (p : AV) : Option (AV × Nat) :=
  match p with
  | .rptr id g i o => match rdO H id g with
    | some r => r.2.2[i]?.map fun e => (e, o)
    | none => pelem H p
  | _ => pelem H p
def aloadR (ag : Bool) (n : Nat) (H : List AO) (p : AV) : Option AV := (pelemR H p).bind fun r => part ag r.2 n r.1.cells
def aidxR (s i : Nat) (H : List AO) (x : AV) : Option AV :=
  match x with
  | .ref id g o n => match rdO H id g with
    | some r => if r.2.1 = s ∧ i < n then some (.rptr id g (o + i) 0) else none
    | none => aidx s i H x
  | _ => aidx s i H x
/-- a store that keeps the slices that are stored as they are -/
def astoreK1 (n : Nat) (H : List AO) (p v : AV) : Option (List AO) :=
  match p with
  | .rptr id g i o => match rdO H id g with
    | some r => match r.2.2[i]? with
      | some e => if okCells v = true ∧ v.cells.length = n ∧ o + n ≤ r.2.1 then some (H.set id (.rr r.1 r.2.1 g (r.2.2.set i (splice e o v.cells)))) else none
      | none => none
    | none => none
  | _ => astore n H p v
/-- plain values leave a row of its kind -/
def astoreK (n : Nat) (H : List AO) (p v : AV) : Option (List AO) :=
  match (if plainE v = true then astore n H p v else none) with
  | some H' => some H'
  | none => astoreK1 n H p v

def isAgg' : AV → Bool
  | .agg _ => true
  | _ => false
/-- a row that holds slices is closed: its slices' rows are frozen, and it holds what they read as -/
def closeR (id : Nat) (H : List AO) : List AO :=
  match H[id]? with
  | some (.rr T s g es) => if es.all isAgg' = true then (frz (es.flatMap refs1) H).set id (.row T s g (es.map (conv1 H))) else H
  | _ => H
def closeL : List Nat → List AO → List AO
  | [], H => H
  | i :: r, H => closeL r (closeR i H)
/- equal as terms -/
mutual
def AV.beq : AV → AV → Bool
  | .top, .top => true
  | .bool a, .bool b => a == b
  | .int k n, .int k' n' => k == k' && n == n'
  | .str a, .str b => a == b
  | .nilp, .nilp => true
  | .bptr i o, .bptr i' o' => i == i' && o == o'
  | .rptr i g j o, .rptr i' g' j' o' => i == i' && g == g' && j == j' && o == o'
  | .cptr e o, .cptr e' o' => AV.beq e e' && o == o'
  | .e0, .e0 => true
  | .sl s es, .sl s' es' => s == s' && AV.beqL es es'
  | .ref i g o n, .ref i' g' o' n' => i == i' && g == g' && o == o' && n == n'
  | .agg cs, .agg ds => AV.beqL cs ds
  | .tup cs, .tup ds => AV.beqL cs ds
  | .fn f cs, .fn f' ds => f == f' && AV.beqL cs ds
  | .mp i, .mp i' => i == i'
  | .itr i, .itr i' => i == i'
  | .nils, .nils => true
  | .en, .en => true
  | _, _ => false
def AV.beqL : List AV → List AV → Bool
  | [], [] => true
  | a :: r, b :: q => AV.beq a b && AV.beqL r q
  | _, _ => false
end

mutual
theorem AV.beq_refl : ∀ a : AV, AV.beq a a = true
  | .top | .nilp | .e0 | .nils | .en => by simp [AV.beq]
  | .bool _ | .int _ _ | .str _ | .bptr _ _ | .rptr _ _ _ _ | .ref _ _ _ _ | .mp _ | .itr _ => by simp [AV.beq]
  | .cptr e o => by simp [AV.beq, AV.beq_refl e]
  | .sl s es => by simp [AV.beq, AV.beqL_refl es]
  | .agg cs => by simp [AV.beq, AV.beqL_refl cs]
  | .tup cs => by simp [AV.beq, AV.beqL_refl cs]
  | .fn f cs => by simp [AV.beq, AV.beqL_refl cs]
theorem AV.beqL_refl : ∀ l : List AV, AV.beqL l l = true
  | [] => by simp [AV.beqL]
  | a :: r => by simp [AV.beqL, AV.beq_refl a, AV.beqL_refl r]
end

mutual
theorem AV.eq_of_beq : ∀ (a b : AV), AV.beq a b = true → a = b
  | .cptr e o, b, h => by
    cases b <;> simp only [AV.beq, Bool.and_eq_true, beq_iff_eq, Bool.false_eq_true] at h
    rw [AV.eq_of_beq e _ h.1, h.2]
  | .sl s es, b, h => by
    cases b <;> simp only [AV.beq, Bool.and_eq_true, beq_iff_eq, Bool.false_eq_true] at h
    rw [AV.eq_of_beqL es _ h.2, h.1]
  | .agg cs, b, h => by
    cases b <;> simp only [AV.beq, Bool.false_eq_true] at h
    rw [AV.eq_of_beqL cs _ h]
  | .tup cs, b, h => by
    cases b <;> simp only [AV.beq, Bool.false_eq_true] at h
    rw [AV.eq_of_beqL cs _ h]
  | .fn f cs, b, h => by
    cases b <;> simp only [AV.beq, Bool.and_eq_true, beq_iff_eq, Bool.false_eq_true] at h
    rw [AV.eq_of_beqL cs _ h.2, h.1]
  | .top, b, h | .nilp, b, h | .e0, b, h | .nils, b, h | .en, b, h => by cases b <;> simp [AV.beq] at h <;> rfl
  | .bool _, b, h | .int _ _, b, h | .str _, b, h | .bptr _ _, b, h | .rptr _ _ _ _, b, h | .ref _ _ _ _, b, h | .mp _, b, h | .itr _, b, h => by
    cases b <;> simp [AV.beq] at h <;> simp [h]
theorem AV.eq_of_beqL : ∀ (l m : List AV), AV.beqL l m = true → l = m
  | [], m, h => by cases m <;> simp [AV.beqL] at h <;> rfl
  | a :: r, m, h => by
    cases m with
    | nil => simp [AV.beqL] at h
    | cons b q =>
      simp only [AV.beqL, Bool.and_eq_true] at h
      rw [AV.eq_of_beq a b h.1, AV.eq_of_beqL r q h.2]
end

def kvBeq : List (Int × AV) → List (Int × AV) → Bool
  | [], [] => true
  | (k, v) :: r, (j, u) :: q => k == j && AV.beq v u && kvBeq r q
  | _, _ => false
theorem kvBeq_refl : ∀ l, kvBeq l l = true
  | [] => rfl
  | (k, v) :: r => by simp [kvBeq, AV.beq_refl, kvBeq_refl r]
theorem eq_of_kvBeq : ∀ (l m), kvBeq l m = true → l = m
  | [], m, h => by cases m <;> simp [kvBeq] at h <;> rfl
  | (k, v) :: r, m, h => by
    cases m with
    | nil => simp [kvBeq] at h
    | cons q t =>
      obtain ⟨j, u⟩ := q
      simp only [kvBeq, Bool.and_eq_true, beq_iff_eq] at h
      rw [h.1.1, AV.eq_of_beq v u h.1.2, eq_of_kvBeq r t h.2]

def OD.beq : OD → OD → Bool
  | .mp a, .mp b => kvBeq a b
  | .it s p, .it s' p' => s == s' && p == p'
  | .bb l, .bb m => l == m
  | _, _ => false
theorem OD.beq_refl : ∀ a, OD.beq a a = true
  | .mp a => by simp [OD.beq, kvBeq_refl]
  | .it s p => by simp [OD.beq]
  | .bb l => by simp [OD.beq]
theorem OD.eq_of_beq : ∀ a b, OD.beq a b = true → a = b
  | .mp a, b, h => by cases b <;> simp [OD.beq] at h; rw [eq_of_kvBeq _ _ h]
  | .it s p, b, h => by cases b <;> simp [OD.beq] at h; simp [h]
  | .bb l, b, h => by cases b <;> simp [OD.beq] at h; simp [h]

def AO.beq : AO → AO → Bool
  | .row T s g es, .row T' s' g' es' => T == T' && s == s' && g == g' && AV.beqL es es'
  | .fz s g es, .fz s' g' es' => s == s' && g == g' && AV.beqL es es'
  | .box T s e, .box T' s' e' => T == T' && s == s' && AV.beq e e'
  | .obj d, .obj d' => OD.beq d d'
  | .rr T s g es, .rr T' s' g' es' => T == T' && s == s' && g == g' && AV.beqL es es'
  | .rsv t, .rsv t' => t == t'
  | .gone, .gone => true
  | _, _ => false
theorem AO.beq_refl : ∀ a, AO.beq a a = true
  | .row .. | .fz .. | .rr .. => by simp [AO.beq, AV.beqL_refl]
  | .box .. => by simp [AO.beq, AV.beq_refl]
  | .obj d => by simp [AO.beq, OD.beq_refl]
  | .rsv t => by simp [AO.beq]
  | .gone => by simp [AO.beq]
theorem AO.eq_of_beq : ∀ a b, AO.beq a b = true → a = b
  | .row T s g es, b, h => by
    cases b <;> simp [AO.beq] at h
    obtain ⟨⟨⟨rfl, rfl⟩, rfl⟩, h⟩ := h; rw [AV.eq_of_beqL _ _ h]
  | .fz s g es, b, h => by
    cases b <;> simp [AO.beq] at h
    obtain ⟨⟨rfl, rfl⟩, h⟩ := h; rw [AV.eq_of_beqL _ _ h]
  | .rr T s g es, b, h => by
    cases b <;> simp [AO.beq] at h
    obtain ⟨⟨⟨rfl, rfl⟩, rfl⟩, h⟩ := h; rw [AV.eq_of_beqL _ _ h]
  | .box T s e, b, h => by
    cases b <;> simp [AO.beq] at h
    obtain ⟨⟨rfl, rfl⟩, h⟩ := h; rw [AV.eq_of_beq _ _ h]
  | .obj d, b, h => by
    cases b <;> simp [AO.beq] at h
    rw [OD.eq_of_beq _ _ h]
  | .rsv t, b, h => by cases b <;> simp [AO.beq] at h; rw [h]
  | .gone, b, h => by cases b <;> simp [AO.beq] at h; rfl
def AO.beqL : List AO → List AO → Bool
  | [], [] => true
  | a :: r, b :: q => AO.beq a b && AO.beqL r q
  | _, _ => false
theorem AO.beqL_refl : ∀ l, AO.beqL l l = true
  | [] => rfl
  | a :: r => by simp [AO.beqL, AO.beq_refl, AO.beqL_refl r]
theorem AO.eq_of_beqL : ∀ (l m), AO.beqL l m = true → l = m
  | [], m, h => by cases m <;> simp [AO.beqL] at h <;> rfl
  | a :: r, m, h => by
    cases m with
    | nil => simp [AO.beqL] at h
    | cons b q =>
      simp only [AO.beqL, Bool.and_eq_true] at h
      rw [AO.eq_of_beq a b h.1, AO.eq_of_beqL r q h.2]
/-- what calls give: 'cl': of plain values, in a frame of its own; 'op': in the caller's frame -/
structure Phi where
  cl : Nat → List AV → Option (AV × List AO)
  op : Nat → List AV → List AO → Option (AV × List AO)

/-- what hangs on no memory -/
def indep0 : AV → Bool
  | .top | .bool _ | .int _ _ | .str _ | .nilp | .e0 | .nils | .en | .fn _ [] => true
  | _ => false
def indepR0 : AV → Bool
  | .ref .. => true
  | v => indep0 v
def indepR1 : AV → Bool
  | .agg cs => cs.all indepR0
  | v => indepR0 v
def indepR2 : AV → Bool
  | .tup vs => vs.all indepR1
  | v => indepR1 v
def indepO : AO → Bool
  | .row _ _ _ es => (flat es).all indep0
  | _ => false

/- one operation; 'φ': what a call of a function gives -/
def aop (φ : Phi) (op : IOp) (e : Env) (H : List AO) : Option (AV × List AO) :=
  match op with
  | .mv x => some (x.ev e, H)
  | .nilrow T s => some (.ref H.length 0 0 0, H ++ [.row T s 0 []])
  | .pick c a b => match c.ev e with
    | .bool t => some (if t then a.ev e else b.ev e, H)
    | _ => none
  | .new T s z => if z.cells.length = s then some (.bptr H.length 0, H ++ [.box T s z]) else none
  | .box T s x => if okCells (x.ev e) = true ∧ (x.ev e).cells.length = s then some (.bptr H.length 0, H ++ [.box T s (x.ev e)]) else none
  | .build z parts => (fillParts e z parts).map fun cs => (.agg cs, H)
  | .mkrow T s n z parts => (fillRow s e H (List.replicate n z) parts).map fun es => (.ref H.length 0 0 n, frz (rowRefs e parts) H ++ [.row T s 0 es])
  | .mkimm s n z parts => (fillRow s e H (List.replicate n z) parts).map fun es => (.sl s es, frz (rowRefs e parts) H)
  | .load ag n x => (aload ag n H (x.ev e)).map fun v => (v, H)
  | .store n x y => (astore n H (x.ev e) (y.ev e)).map fun H' => (.tup [], H')
  | .chk x => (achk (x.ev e)).map fun v => (v, H)
  | .bin op x y => (abin op (x.ev e) (y.ev e)).map fun v => (v, H)
  | .aeq neg ks x y => match x.ev e, y.ev e with
    | .agg cs, .agg ds => (ceqs ks cs ds).map fun b => (.bool (b != neg), H)
    | _, _ => none
  | .beq neg x y => match x.ev e, y.ev e with
    | .bool a, .bool b => some (.bool ((a == b) != neg), H)
    | _, _ => none
  | .sid x => match x.ev e with
    | .str l => some (.str l, H)
    | _ => none
  | .un op x => (aun op (x.ev e)).map fun v => (v, H)
  | .conv k x => match x.ev e with
    | .int _ n => some (.int k (k.wrap n), H)
    | _ => none
  | .slc s x lo hi => (alen (x.ev e)).bind fun n => (bndc e n (acap H n (x.ev e)) lo hi).bind fun lh => (aslc s lh.1 lh.2 H (x.ev e)).map fun v => (v, H)
  | .sls x lo hi => match x.ev e with
    | .str l => (bnds e l.length lo hi).map fun lh => (.str ((l.drop lh.1).take (lh.2 - lh.1)), H)
    | _ => none
  | .z0 x => (alen (x.ev e)).map fun _ => (.e0, H)
  | .fld off x => (afld off (x.ev e)).map fun v => (v, H)
  | .prt ag off n x => match x.ev e with
    | .agg cs => (part ag off n cs).map fun v => (v, H)
    | _ => none
  | .idx s x i => (natOf (i.ev e)).bind fun i => (aidx s i H (x.ev e)).map fun v => (v, H)
  | .sidx x i => match x.ev e with
    | .str l => (natOf (i.ev e)).bind fun (i : Nat) => l[i]?.map fun b => (.int .u8 (b.toNat : Int), H)
    | _ => none
  | .ext x i => match x.ev e with
    | .tup vs => vs[i]?.map fun v => (v, H)
    | _ => none
  | .len x => (alen (x.ev e)).map fun (n : Nat) => (.int .i64 (n : Int), H)
  | .slen x => match x.ev e with
    | .str l => some (.int .i64 l.length, H)
    | _ => none
  | .app T s x y => (elems H s (y.ev e)).bind fun news => aapp T s H (x.ev e) news
  | .mx x y => match x.ev e, y.ev e with
    | .int k a, .int k' b => if k = k' then some (.int k (if a < b then b else a), H) else none
    | _, _ => none
  | .mn x y => match x.ev e, y.ev e with
    | .int k a, .int k' b => if k = k' then some (.int k (if b < a then b else a), H) else none
    | _, _ => none
  | .mk T s z n c => (natOf (n.ev e)).bind fun n => (natOf (c.ev e)).bind fun c =>
      if n ≤ c ∧ c ≤ maxRow then some (.ref H.length 0 0 n, H ++ [.row T s 0 (List.replicate n z)]) else none
  | .mkfn f caps => some (.fn f (caps.map fun x => x.ev e), H)
  | .call f args => match f.ev e with
    | .fn f caps =>
      let vs := args.map (fun x => x.ev e) ++ caps
      (φ.cl f (vs.map (conv1 H))).map fun r => if plainR r.1 = true ∧ r.2.isEmpty = true then (r.1, H) else (shift2 H.length r.1, frz (vs.flatMap refs1) H ++ r.2)
    | _ => none
  | .ocall f args => match f.ev e with
    | .fn f caps => φ.op f (args.map (fun x => x.ev e) ++ caps) H
    | _ => none
  | .callr f args => match f.ev e with
    | .fn f caps =>
      let vs := args.map (fun x => x.ev e) ++ caps
      let H1 := closeL (vs.flatMap refs1) H
      (φ.cl f (vs.map (conv1 H1))).map fun r => if plainR r.1 = true ∧ r.2.isEmpty = true then (r.1, H) else
        if indepR2 r.1 = true ∧ r.2.all indepO = true then (shift2 H.length r.1, H ++ r.2) else (shift2 H.length r.1, frz (vs.flatMap refs1) H1 ++ r.2)
    | _ => none
  | .ocallc f args => match f.ev e with
    | .fn f caps => φ.op f (args.map (fun x => x.ev e) ++ caps) (closeL ((args.map (fun x => x.ev e) ++ caps).flatMap refs1) H)
    | _ => none
  | .bad => none
  | .newAt tag T s z => if z.cells.length = s then (rsvIdx tag H).map fun i => (.bptr i 0, H.set i (.box T s z)) else none
  | .loadb ag n x => match x.ev e with
    | .bptr id o => (aload ag n H (.bptr id o)).map fun v => (v, H)
    | .cptr c o => (aload ag n H (.cptr c o)).map fun v => (v, H)
    | _ => none
  | .storer n x y => match x.ev e with
    | .rptr id g i o => (astore n H (.rptr id g i o) (y.ev e)).map fun H' => (.tup [], H')
    | _ => none
  | .mkpl s n z parts => if plainE z = true then (fillPl s e (List.replicate n z) parts).map fun es => (.sl s es, H) else none
  | .eqnil neg x => (aeqnil H (x.ev e)).map fun b => (.bool (b != neg), H)
  | .pix n s x i => (natOf (i.ev e)).bind fun i => if i < n then (afld (i * s) (x.ev e)).map fun v => (v, H) else none
  | .ait ag n s x i => match x.ev e with
    | .agg cs => (natOf (i.ev e)).bind fun i => if i < n then (part ag (i * s) s cs).map fun v => (v, H) else none
    | _ => none
  | .mkmap => some (.mp H.length, H ++ [.obj (.mp [])])
  | .mlook ok z x k => match x.ev e, k.ev e with
    | .mp id, .int .i64 n => match H[id]? with
      | some (.obj (.mp kv)) => some (if ok then .tup [(mgetD z kv n).1, .bool (mgetD z kv n).2] else (mgetD z kv n).1, H)
      | _ => none
    | _, _ => none
  | .mput x k v => match x.ev e, k.ev e with
    | .mp id, .int .i64 n => match H[id]? with
      | some (.obj (.mp kv)) => if plain (v.ev e) = true then some (.tup [], H.set id (.obj (.mp (mset kv n (v.ev e))))) else none
      | _ => none
    | _, _ => none
  | .rstr x => match x.ev e with
    | .str l => some (.itr H.length, H ++ [.obj (.it l 0)])
    | _ => none
  | .nstr x => match x.ev e with
    | .itr id => match H[id]? with
      | some (.obj (.it l pos)) => if pos < l.length then
          some (.tup [.bool true, .int .i64 (pos : Int), .int .i32 (Utf8.decode ⟨l.toArray⟩ pos).1], H.set id (.obj (.it l (pos + (Utf8.decode ⟨l.toArray⟩ pos).2))))
        else some (.tup [.bool false], H)
      | _ => none
    | _ => none
  | .b2s x => (elems H 1 (x.ev e)).bind fun es => (bytesOf es).map fun l => (.str l, H)
  | .clr s z x => if isE (x.ev e) then some (.tup [], H) else (wrow H s (x.ev e)).map fun (id, T, g, o, n, es) => (.tup [], H.set id (.row T s g (spl es o (List.replicate n (tops s)))))
  | .cpy s x y => (elems H s (y.ev e)).bind fun news => if isE (x.ev e) then some (.int .i64 0, H) else
      (wrow H s (x.ev e)).map fun (id, T, g, o, n, es) => (.int .i64 (min news.length n : Nat), H.set id (.row T s g (spl es o (news.take n))))
  | .slc3 x lo hi mx => if rdb H (x.ev e) = false then none else (alen (x.ev e)).bind fun n => (bnd1 e n mx).bind fun m => (bnd1 e m hi).bind fun h => (bnd1 e 0 lo).bind fun l => if l ≤ h ∧ h ≤ m ∧ m ≤ n then some (.top, H) else none
  | .loadr ag n x => (aloadR ag n H (x.ev e)).map fun v => (v, H)
  | .idxr s x i => (natOf (i.ev e)).bind fun i => (aidxR s i H (x.ev e)).map fun v => (v, H)
  | .storek n x y => (astoreK n H (x.ev e) (y.ev e)).map fun H' => (.tup [], H')
  | .newb T el => some (.bptr (H.length + 1) 0, H ++ [.row el 1 0 [], .box T 2 (.agg [.nilp, .ref H.length 0 0 0])])
  | .s2b x => match x.ev e with
    | .str l => if l.length ≤ maxRow then some (.itr H.length, H ++ [.obj (.bb l)]) else none
    | _ => none

def wantedA (e : Env) : Option (Nat × Bool) → Option Bool
  | none => some true
  | some (s, want) => match e.get s with
    | .bool b => some (b == want)
    | .tup [] => some false
    | _ => none

def runOps (φ : Phi) : List IOper → Env → List AO → Option (Env × List AO)
  | [], e, H => some (e, H)
  | o :: r, e, H => (wantedA e o.guard).bind fun b =>
    if b then (aop φ o.op e H).bind fun x => runOps φ r (scr o.live (e.put o.dst x.1)) x.2
    else runOps φ r (scr o.live (e.put o.dst (.tup []))) H

/-- the same, as far as it is read behind the region -/
def agree (keep : List Nat) (x y : Env × List AO) : Bool := (keep.all fun d => AV.beq (x.1.get d) (y.1.get d)) && AO.beqL x.2 y.2

def runDT (φ : Phi) (keep : List Nat) : DT → Env → List AO → Option (Env × List AO)
  | .nil, e, H => some (e, H)
  | .op o r, e, H => (runOps φ [o] e H).bind fun x => runDT φ keep r x.1 x.2
  | .br a b, e, H => (runDT φ keep a e H).bind fun x => (runDT φ keep b e H).bind fun y => if agree keep x y = true then some x else none

inductive Ex where
  | normal
  | ret
  | exit (id : Nat)

structure XS where
  E : List Nat
  U : List Nat
  rows : List AO

def exp0 (H : List AO) (v : AV) (x : XS) : AV × XS :=
  match v with
  | .ref id g o n => if x.E.contains id then (.top, x) else match H[id]? with
    | some (.row T s g' es) => if g' = g ∧ o = 0 ∧ ¬ x.U.contains id then (.ref x.rows.length 0 0 (es.take n).length, { E := id :: x.E, U := x.U, rows := x.rows ++ [.row T s 0 (es.take n)] })
      else (conv0 H v, { x with U := id :: x.U })
    | _ => (conv0 H v, x)
  | v => (conv0 H v, x)

def expL (H : List AO) : List AV → XS → List AV × XS
  | [], x => ([], x)
  | v :: r, x => let a := exp0 H v x; let b := expL H r a.2; (a.1 :: b.1, b.2)

def exp1 (H : List AO) (v : AV) (x : XS) : AV × XS :=
  match v with
  | .agg cs => let a := expL H cs x; (.agg a.1, a.2)
  | v => exp0 H v x

def expV (H : List AO) : List AV → XS → List AV × XS
  | [], x => ([], x)
  | v :: r, x => let a := exp1 H v x; let b := expV H r a.2; (a.1 :: b.1, b.2)

def resVals (e : Env) (H : List AO) : List IRes → Option (List AV)
  | [] => some []
  | .tmp t :: r => (resVals e H r).map fun vs => e.get t :: vs
  | .cell t ag n :: r => (aload ag n H (e.get t)).bind fun v => (resVals e H r).map fun vs => v :: vs

def retVal (e : Env) (H : List AO) (rs : List IRes) : Option (AV × List AO) :=
  (resVals e H rs).map fun vs => let a := expV (closeL (vs.flatMap refs1) H) vs { E := [], U := [], rows := [] }; (match a.1 with | [v] => v | vs => .tup vs, a.2.rows)

def bindArgs : Nat → List AV → Env
  | _, [] => []
  | i, v :: r => (i, v) :: bindArgs (i + 1) r

def thenEx (k : Env → List AO → Option (Ex × Env × List AO)) (r : Ex × Env × List AO) : Option (Ex × Env × List AO) :=
  match r.1 with
  | .normal => k r.2.1 r.2.2
  | _ => some r

def outBlock (id : Nat) (r : Ex × Env × List AO) : Ex × Env × List AO :=
  match r.1 with
  | .exit i => if i = id then (.normal, r.2) else r
  | _ => r

def onBool {α : Type} (v : AV) (x y : Option α) : Option α :=
  match v with
  | .bool t => if t then x else y
  | _ => none

def finish (rs : List IRes) (r : Ex × Env × List AO) : Option (AV × List AO) :=
  match r.1 with
  | .exit _ => none
  | _ => retVal r.2.1 r.2.2 rs

def packV : List AV → AV
  | [v] => v
  | vs => .tup vs

/-- a call in the caller's frame: the results as they are -/
def finishO (rs : List IRes) (r : Ex × Env × List AO) : Option (AV × List AO) :=
  match r.1 with
  | .exit _ => none
  | _ => (resVals r.2.1 r.2.2 rs).map fun vs => (packV vs, r.2.2)

/-- the functions: those that are run, and what is known of others by their contracts -/
structure TB where
  fn : Nat → Option IFn
  ext : Nat → List AV → Option (AV × List AO)
  extO : Nat → List AV → List AO → Option (AV × List AO)

/- code, by fuel -/
def exN (tbl : TB) : Nat → IC → Env → List AO → Option (Ex × Env × List AO)
  | 0, _, _, _ => none
  | k + 1, c, e, H => match c with
    | .skip => some (.normal, e, H)
    | .reg d tags ops keep => (runOps ⟨fun f args => match tbl.fn f with
        | some fn => if args.length = fn.np then (exN tbl k fn.body (bindArgs 0 args) []).bind (finish fn.res) else none
        | none => tbl.ext f args,
        fun f args H => match tbl.fn f with
        | some fn => if args.length = fn.np then (exN tbl k fn.body (bindArgs 0 args) H).bind (finishO fn.res) else none
        | none => tbl.extO f args H⟩ (if d then ops.map IOper.bare else ops) e (H ++ tags.map .rsv)).map fun r => (.normal, scrub keep r.1, r.2)
    | .seq a b => (exN tbl k a e H).bind (thenEx fun e H => exN tbl k b e H)
    | .cond c a b => onBool (c.ev e) (exN tbl k a e H) (exN tbl k b e H)
    | .block id b => (exN tbl k b e H).map (outBlock id)
    | .loop keep b => (exN tbl k b (scrub keep e) H).bind (thenEx fun e H => exN tbl k (.loop keep b) e H)
    | .exit id => some (.exit id, e, H)
    | .ret => some (.ret, e, H)
    | .bad => none
    | .scope b => exN tbl k b e H
    | .rega t keep => (runDT ⟨fun f args => match tbl.fn f with
        | some fn => if args.length = fn.np then (exN tbl k fn.body (bindArgs 0 args) []).bind (finish fn.res) else none
        | none => tbl.ext f args,
        fun f args H => match tbl.fn f with
        | some fn => if args.length = fn.np then (exN tbl k fn.body (bindArgs 0 args) H).bind (finishO fn.res) else none
        | none => tbl.extO f args H⟩ keep t e H).map fun r => (.normal, scrub keep r.1, r.2)

def callN (tbl : TB) (k : Nat) (f : Nat) (args : List AV) : Option (AV × List AO) :=
  match tbl.fn f with
  | some fn => if args.length = fn.np then (exN tbl k fn.body (bindArgs 0 args) []).bind (finish fn.res) else none
  | none => tbl.ext f args

def callO (tbl : TB) (k : Nat) (f : Nat) (args : List AV) (H : List AO) : Option (AV × List AO) :=
  match tbl.fn f with
  | some fn => if args.length = fn.np then (exN tbl k fn.body (bindArgs 0 args) H).bind (finishO fn.res) else none
  | none => tbl.extO f args H

def phiN (tbl : TB) (k : Nat) : Phi := ⟨callN tbl k, callO tbl k⟩

end Go.PI
