/- An interpreter on values for the program's code. No conditions. -/
import GoSem.Step
namespace Go.Ab
set_option autoImplicit false

/-- How an element lies in memory: its cells; is it a struct or an array? -/
structure EK where
  sz : Nat
  ag : Bool
  deriving DecidableEq

/-- Values that share nothing that is ever written. -/
inductive PV where
  | undef
  | bool (b : Bool)
  | int (k : IntKind) (n : Int)
  | flt (k : FloatKind) (b : Nat)
  | str (s : List UInt8)
  | agg (n : Nat) (cs : List PV)
  | nils
  | sl (k : EK) (xs : List PV)
  | nilp
  | pp (k : EK) (xs : List PV) (i f : Nat)
  | fn (f : Fn) (cs : List PV)
  | nilfn
  | ifc (t : TypeId) (v : PV)
  | nilif
  | mp (ks vs : List PV)

/-- Values that may lead into the heap of numbered blocks. -/
inductive V where
  | p (x : PV)
  | agg (n : Nat) (cs : List V)
  | lp (id i f : Nat)
  | ls (id : Nat)
  | lsub (id o l : Nat)
  | fn (f : Fn) (cs : List V)
  | tup (vs : List V)
  | lm (id : Nat)

inductive Blk where
  | dead
  | pu (k : EK) (xs : List PV)
  | mi (k : EK) (xs : List V)
  | fz (k : EK) (xs : List PV)
  | mp (ks vs : List PV)
  | fm (ks vs : List PV)

abbrev Heap := List Blk

structure TI where
  d : TypeDesc
  sz : Nat
  bytes : Nat
  z : PV

abbrev Ty := Nat → Option TI

def isAggD : TypeDesc → Bool
  | .struct _ | .array _ _ => true
  | _ => false
def TI.ek (t : TI) : EK := ⟨t.sz, isAggD t.d⟩

def PV.kd (k : EK) : PV → Bool
  | .undef => false
  | .agg n _ => k.ag && n == k.sz
  | _ => !k.ag && k.sz == 1
def V.kd (k : EK) : V → Bool
  | .p x => x.kd k
  | .agg n _ => k.ag && n == k.sz
  | .tup _ => false
  | _ => !k.ag && k.sz == 1
def PV.cells : PV → List PV
  | .agg _ cs => cs
  | x => [x]
def V.cells : V → List V
  | .p x => x.cells.map .p
  | .agg _ cs => cs
  | x => [x]

def ofVal : Value → PV
  | .bool b => .bool b
  | .int k n => .int k n
  | .float k b => .flt k b
  | .string s => .str s.data.toList
  | .pointer a => match a with | none => .nilp | some _ => .undef
  | .slice a l c => match a with | none => if l = 0 ∧ c = 0 then .nils else .undef | some _ => .undef
  | .func f first cs => if first.size = 0 ∧ cs.size = 0 then .fn f [] else .undef
  | .nilFunc => .nilfn
  | .nilIface => .nilif
  | _ => .undef

/-- All values of a list, where each is pure. -/
def allPure : List V → Option (List PV)
  | [] => some []
  | .p x :: r => match allPure r with | some l => some (x :: l) | none => none
  | _ => none

/-- The numbers that a value names. -/
def V.refs : V → List Nat
  | .p _ => []
  | .agg _ cs => refsL cs
  | .lp id _ _ => [id]
  | .ls id => [id]
  | .lsub id _ _ => [id]
  | .fn _ cs => refsL cs
  | .tup vs => refsL vs
  | .lm id => [id]
where refsL : List V → List Nat
  | [] => []
  | v :: r => v.refs ++ refsL r

def Blk.refs : Blk → List Nat
  | .mi _ xs => V.refs.refsL xs
  | _ => []

def mem (n : Nat) : List Nat → Bool
  | [] => false
  | m :: r => n == m || mem n r

/-- A value without what names that number. -/
def V.inv (id : Nat) : V → V
  | .p x => .p x
  | .agg n cs => .agg n (invL id cs)
  | .lp j i f => if j == id then .p .undef else .lp j i f
  | .ls j => if j == id then .p .undef else .ls j
  | .lsub j o l => if j == id then .p .undef else .lsub j o l
  | .fn f cs => if mem id (V.refs.refsL cs) then .p .undef else .fn f cs
  | .tup vs => .tup (invL id vs)
  | .lm j => if j == id then .p .undef else .lm j
where invL (id : Nat) : List V → List V
  | [] => []
  | v :: r => v.inv id :: invL id r
def Blk.inv (id : Nat) : Blk → Blk
  | .mi k xs => .mi k (V.inv.invL id xs)
  | b => b
def invH (id : Nat) : Heap → Heap
  | [] => []
  | b :: r => b.inv id :: invH id r

def fzL (g : V → Option PV) : List V → Option (List PV)
  | [] => some []
  | v :: r => match g v with
    | some x => match fzL g r with | some l => some (x :: l) | none => none
    | none => none
/-- What stands in a block, all that it leads to frozen. -/
def cont (g : V → Option PV) (H : Heap) (id : Nat) : Option (EK × List PV) :=
  match H[id]? with
  | some (.pu k xs) => some (k, xs)
  | some (.fz k xs) => some (k, xs)
  | some (.mi k vs) => (fzL g vs).map fun xs => (k, xs)
  | _ => none
/-- What a value comes to when all that it leads to is frozen. -/
def fzV : Nat → Heap → V → Option PV
  | 0, _, _ => none
  | n + 1, H, v => match v with
    | .p x => some x
    | .agg m cs => (fzL (fzV n H) cs).map (.agg m)
    | .lp id i f => match cont (fzV n H) H id with
      | some (k, xs) => if i < xs.length then some (.pp k xs i f) else none
      | none => none
    | .ls id => match cont (fzV n H) H id with
      | some (k, xs) => some (.sl k xs)
      | none => none
    | .lsub id o l => match cont (fzV n H) H id with
      | some (k, xs) => if o + l ≤ xs.length then some (.sl k ((xs.drop o).take l)) else none
      | none => none
    | .fn f cs => (fzL (fzV n H) cs).map (.fn f)
    | .lm id => match H[id]? with
      | some (.mp ks vs) => some (.mp ks vs)
      | some (.fm ks vs) => some (.mp ks vs)
      | _ => none
    | .tup _ => none

/-- The numbers that values lead to. -/
def reachFrom : Nat → Heap → List Nat → List Nat → List Nat
  | 0, _, _, acc => acc
  | _ + 1, _, [], acc => acc
  | n + 1, H, id :: r, acc =>
    if mem id acc then reachFrom n H r acc
    else match H[id]? with
      | some b => reachFrom n H (b.refs ++ r) (id :: acc)
      | none => reachFrom n H r (id :: acc)
def fuelR : Nat := 100000
def reach (H : Heap) (vs : List V) : List Nat := reachFrom fuelR H (V.refs.refsL vs) []

def fuelZ : Nat := 1000
def fzBlk (H : Heap) : Blk → Option Blk
  | .pu k xs => some (.fz k xs)
  | .mi k vs => match fzL (fzV fuelZ H) vs with | some xs => some (.fz k xs) | none => none
  | .mp ks vs => some (.fm ks vs)
  | b => some b
/-- Some numbers' blocks frozen. -/
def fzIds (H0 : Heap) (ids : List Nat) : Nat → Heap → Option Heap
  | _, [] => some []
  | i, b :: r => match (if mem i ids then fzBlk H0 b else some b), fzIds H0 ids (i + 1) r with
    | some b', some r' => some (b' :: r')
    | _, _ => none

def restr (ids : List Nat) : Nat → Heap → Heap
  | _, [] => []
  | i, b :: r => (if mem i ids then b else .dead) :: restr ids (i + 1) r
/-- The heap H, of which what stands in ids, and what is new, comes from the other one. -/
def merge (ids : List Nat) : Nat → Heap → Heap → Heap
  | _, [], H' => H'
  | i, b :: r, b' :: r' => (if mem i ids then b' else b) :: merge ids (i + 1) r r'
  | _, b :: r, [] => b :: r

inductive Mode where
  | loc | bor | frz
inductive FnE where
  | code (F : Func) (m : Mode)
  | ext (g : List PV → Option PV)
abbrev Fns := Nat → Option FnE

structure Env where
  ty : Ty
  fns : Fns

/-- Numbers that an append has moved; numbers of blocks that were written. -/
structure Lg where
  mv : List Nat
  wr : List Nat
def lg0 : Lg := ⟨[], []⟩

structure St where
  tm : List V
  H : Heap
  lg : Lg

def und : V := .tup []

def St.ev (s : St) : Operand → V
  | .tmp t => s.tm.getD t (.p .undef)
  | .const v => .p (ofVal v)
  | .global _ => .p .undef
  | .func f => .p (.fn (.func f) [])

def St.put (s : St) (d : Option Nat) (v : V) : St :=
  match d with
  | some t => { s with tm := s.tm.set t v }
  | none => s

/-- A part of an element: from cell f on, of type t. -/
def ldE (k : EK) (t : TI) (f : Nat) (x : PV) : Option PV :=
  if isAggD t.d then
    if f == 0 && (t.sz == k.sz && k.ag) then some x
    else match x with
      | .agg n cs => if f + t.sz ≤ n then some (.agg t.sz ((cs.drop f).take t.sz)) else none
      | _ => none
  else if k.ag then match x with
    | .agg _ cs => cs[f]?
    | _ => none
  else if f == 0 then some x else none
def ldV (k : EK) (t : TI) (f : Nat) : V → Option V
  | .p x => (ldE k t f x).map .p
  | x =>
    if isAggD t.d then
      if f == 0 && (t.sz == k.sz && k.ag) then some x
      else match x with
        | .agg n cs => if f + t.sz ≤ n then some (.agg t.sz ((cs.drop f).take t.sz)) else none
        | _ => none
    else if k.ag then match x with
      | .agg _ cs => cs[f]?
      | _ => none
    else if f == 0 then some x else none
/-- An element of which the part from cell f on, of type t, is v. -/
def stE (k : EK) (t : TI) (f : Nat) (x v : PV) : Option PV :=
  if v.kd t.ek then
    if f == 0 && (t.sz == k.sz && (k.ag == isAggD t.d)) then some v
    else match x with
      | .agg n cs => if isAggD t.d then (if f + t.sz ≤ n then some (.agg n (cs.take f ++ v.cells ++ cs.drop (f + t.sz))) else none) else if f < n then some (.agg n (cs.set f v)) else none
      | _ => none
  else none
def stV (k : EK) (t : TI) (f : Nat) (x v : V) : Option V :=
  if v.kd t.ek then
    if f == 0 && (t.sz == k.sz && (k.ag == isAggD t.d)) then some v
    else match x with
      | .agg n cs => if isAggD t.d then (if f + t.sz ≤ n then some (.agg n (cs.take f ++ v.cells ++ cs.drop (f + t.sz))) else none) else if f < n then some (.agg n (cs.set f v)) else none
      | .p (.agg n cs) => if isAggD t.d then (if f + t.sz ≤ n then some (.agg n ((cs.map V.p).take f ++ v.cells ++ (cs.map V.p).drop (f + t.sz))) else none) else if f < n then some (.agg n ((cs.map V.p).set f v)) else none
      | _ => none
  else none

def bufN (H : Heap) (id : Nat) : Option (EK × Nat) :=
  match H[id]? with
  | some (.pu k xs) => some (k, xs.length)
  | some (.fz k xs) => some (k, xs.length)
  | some (.mi k xs) => some (k, xs.length)
  | _ => none

abbrev R1 := Option (V × Heap × Lg)

def aload (H : Heap) (t : TI) : V → Option V
  | .p (.pp k xs i f) => match xs[i]? with
    | some x => (ldE k t f x).map .p
    | none => none
  | .lp id i f => match H[id]? with
    | some (.pu k xs) => match xs[i]? with | some x => (ldE k t f x).map .p | none => none
    | some (.fz k xs) => match xs[i]? with | some x => (ldE k t f x).map .p | none => none
    | some (.mi k xs) => match xs[i]? with | some x => ldV k t f x | none => none
    | _ => none
  | _ => none
def astore (H : Heap) (t : TI) (a v : V) : Option Heap :=
  match a with
  | .lp id i f => match H[id]? with
    | some (.pu k xs) => match xs[i]? with
      | some x => match v with
        | .p v => match stE k t f x v with
          | some y => some (H.set id (.pu k (xs.set i y)))
          | none => none
        | v => match stV k t f (.p x) v with
          | some y => some (H.set id (.mi k ((xs.map V.p).set i y)))
          | none => none
      | none => none
    | some (.mi k xs) => match xs[i]? with
      | some x => match stV k t f x v with
        | some y => some (H.set id (.mi k (xs.set i y)))
        | none => none
      | none => none
    | _ => none
  | _ => none

/-- A new block of such elements. -/
def mkBlk (k : EK) (vs : List V) : Blk :=
  match allPure vs with
  | some xs => .pu k xs
  | none => .mi k vs

def aboxed (H : Heap) (k : EK) (v : V) : R1 :=
  match v with
  | .p x => if x.kd k then some (.lp H.length 0 0, H ++ [.pu k [x]], lg0) else none
  | v => if v.kd k then some (.lp H.length 0 0, H ++ [.mi k [v]], lg0) else none

def setParts (k : EK) (n : Nat) : List V → List (Nat × V) → Option (List V)
  | acc, [] => some acc
  | acc, (i, v) :: r => if i < n && v.kd k then setParts k n (acc.set i v) r else none

def fieldAt (E : Env) (fs : Array Field) (i : Nat) : Option (Nat × TI) :=
  match fs[i]? with
  | some f => match E.ty f.type with | some t => some (f.offset, t) | none => none
  | none => none

def splice (cs : List V) (off : Nat) (vs : List V) : List V := cs.take off ++ vs ++ cs.drop (off + vs.length)
def spliceP (cs : List PV) (off sz : Nat) (vs : List PV) : List PV := cs.take off ++ vs ++ cs.drop (off + sz)
def fillP (E : Env) (fs : Array Field) (n : Nat) : List PV → List (Nat × V) → Option (List PV)
  | cs, [] => some cs
  | cs, (i, v) :: r => match fieldAt E fs i, v with
    | some (off, t), .p x => if x.kd t.ek && off + t.sz ≤ n then fillP E fs n (if isAggD t.d then spliceP cs off t.sz x.cells else cs.set off x) r else none
    | _, _ => none
def fillV (E : Env) (fs : Array Field) (n : Nat) : List V → List (Nat × V) → Option (List V)
  | cs, [] => some cs
  | cs, (i, v) :: r => match fieldAt E fs i with
    | some (off, t) => if v.kd t.ek && off + t.sz ≤ n then fillV E fs n (if isAggD t.d then cs.take off ++ v.cells ++ cs.drop (off + t.sz) else cs.set off v) r else none
    | none => none
def pureParts : List (Nat × V) → Bool
  | [] => true
  | (_, .p _) :: r => pureParts r
  | _ => false
def abuild (E : Env) (t : TI) (parts : List (Nat × V)) : Option V :=
  match t.d, t.z with
  | .struct fs, .agg n cs =>
    if fs.toList.all (fun f => (E.ty f.type).isSome) then
    if pureParts parts then (fillP E fs n cs parts).map fun l => .p (.agg n l)
    else (fillV E fs n (cs.map V.p) parts).map fun l => .agg n l
    else none
  | _, _ => none

def abuildSlice (E : Env) (H : Heap) (t : TI) (len : Nat) (parts : List (Nat × V)) : R1 :=
  match t.d with
  | .slice e => match E.ty e with
    | some te =>
      if len * te.sz ≤ 16777216 ∧ te.z.kd te.ek then
        match setParts te.ek len (List.replicate len (.p te.z)) parts with
        | some vs => some (.ls H.length, H ++ [mkBlk te.ek vs], lg0)
        | none => none
      else none
    | none => none
  | _ => none

def bytesLess : List UInt8 → List UInt8 → Bool
  | _, [] => false
  | [], _ :: _ => true
  | a :: x, b :: y => a < b || (a == b && bytesLess x y)

def acmp (op : BinOp) (a b : Int) : Option PV :=
  match op with
  | .eql => some (.bool (a == b))
  | .neq => some (.bool (a != b))
  | .lss => some (.bool (a < b))
  | .leq => some (.bool (a ≤ b))
  | .gtr => some (.bool (a > b))
  | .geq => some (.bool (a ≥ b))
  | _ => none

def aint (op : BinOp) (k : IntKind) (a b : Int) : Option PV :=
  match op with
  | .add => some (.int k (k.wrap (a + b)))
  | .sub => some (.int k (k.wrap (a - b)))
  | .mul => some (.int k (k.wrap (a * b)))
  | .quo => if b = 0 then none else some (.int k (k.wrap (a.tdiv b)))
  | .rem => if b = 0 then none else some (.int k (a.tmod b))
  | .and => some (.int k (k.wrap ((BitVec.ofInt k.bits a &&& BitVec.ofInt k.bits b).toNat)))
  | .or => some (.int k (k.wrap ((BitVec.ofInt k.bits a ||| BitVec.ofInt k.bits b).toNat)))
  | .xor => some (.int k (k.wrap ((BitVec.ofInt k.bits a ^^^ BitVec.ofInt k.bits b).toNat)))
  | .andNot => some (.int k (k.wrap ((BitVec.ofInt k.bits a &&& ~~~(BitVec.ofInt k.bits b)).toNat)))
  | .shl => none
  | .shr => none
  | op => acmp op a b
def ashift (op : BinOp) (k : IntKind) (a b : Int) : Option PV :=
  if b < 0 then none else
  match op with
  | .shl => some (.int k (k.wrap (a * 2 ^ (min b.toNat k.bits))))
  | .shr => some (.int k (a.fdiv (2 ^ (min b.toNat k.bits))))
  | _ => none
def astr (op : BinOp) (a b : List UInt8) : Option PV :=
  match op with
  | .add => if a.length + b.length ≤ 4611686018427387904 then some (.str (a ++ b)) else none
  | .eql => some (.bool (a == b))
  | .neq => some (.bool (!(a == b)))
  | .lss => some (.bool (bytesLess a b))
  | .leq => some (.bool (bytesLess a b || a == b))
  | .gtr => some (.bool (!(bytesLess a b || a == b)))
  | .geq => some (.bool (!(bytesLess a b)))
  | _ => none
inductive NK where
  | ptr | sl | fn | ifc
/-- Is it the nil of its kind? (Of what may be a nil slice, and need not be: none.) -/
def nilK : V → Option (NK × Bool)
  | .p .nilp => some (.ptr, true)
  | .p (.pp ..) => some (.ptr, false)
  | .lp .. => some (.ptr, false)
  | .p .nils => some (.sl, true)
  | .p (.sl _ (_ :: _)) => some (.sl, false)
  | .p .nilfn => some (.fn, true)
  | .p (.fn ..) => some (.fn, false)
  | .fn .. => some (.fn, false)
  | .p .nilif => some (.ifc, true)
  | .p (.ifc ..) => some (.ifc, false)
  | _ => none
/-- nil held against another value (one of them a constant: kc). -/
def aeqNil (kc : Bool) (t : TI) (x y : V) : Option Bool :=
  match t.d, nilK x, nilK y with
  | .pointer _, some (.ptr, true), some (.ptr, b) => some b
  | .pointer _, some (.ptr, false), some (.ptr, true) => some false
  | .slice _, some (.sl, true), some (.sl, b) => some b
  | .slice _, some (.sl, false), some (.sl, true) => some false
  | .func .., some (.fn, true), some (.fn, b) => some b
  | .func .., some (.fn, false), some (.fn, true) => some false
  | .interface _, some (.ifc, true), some (.ifc, true) => if kc then some true else none
  | .interface _, some (.ifc, true), some (.ifc, false) => some false
  | .interface _, some (.ifc, false), some (.ifc, true) => some false
  | _, _, _ => none
def isConstO : Operand → Bool
  | .const _ => true
  | _ => false
def aflt (op : BinOp) (k : FloatKind) (a b : Nat) : Option PV :=
  match op with
  | .eql => some (.bool (k.format.order a b == some .eq))
  | .neq => some (.bool (k.format.order a b != some .eq))
  | .lss => some (.bool (k.format.order a b == some .lt))
  | .leq => some (.bool (k.format.order a b == some .lt || k.format.order a b == some .eq))
  | .gtr => some (.bool (k.format.order a b == some .gt))
  | .geq => some (.bool (k.format.order a b == some .gt || k.format.order a b == some .eq))
  | .add => (k.format.add a b).map (.flt k)
  | .sub => (k.format.sub a b).map (.flt k)
  | .mul => (k.format.mul a b).map (.flt k)
  | .quo => (k.format.div a b).map (.flt k)
  | _ => none
def abin (kc : Bool) (t : TI) (op : BinOp) (x y : V) : Option V :=
  match x, y with
  | .p (.int k a), .p (.int k' b) => match op with
    | .shl => (ashift .shl k a b).map .p
    | .shr => (ashift .shr k a b).map .p
    | op => if k = k' then (aint op k a b).map .p else none
  | .p (.str a), .p (.str b) => (astr op a b).map .p
  | .p (.flt k a), .p (.flt k' b) => if k = k' then (aflt op k a b).map .p else none
  | .p (.bool a), .p (.bool b) => match t.d, op with
    | .bool, .eql => some (.p (.bool (a == b)))
    | .bool, .neq => some (.p (.bool (!(a == b))))
    | _, _ => none
  | x, y => match op with
    | .eql => (aeqNil kc t x y).map fun b => .p (.bool b)
    | .neq => (aeqNil kc t x y).map fun b => .p (.bool (!b))
    | _ => none
def aun (op : UnOp) (x : V) : Option V :=
  match op, x with
  | .not, .p (.bool b) => some (.p (.bool (!b)))
  | .neg, .p (.int k n) => some (.p (.int k (k.wrap (0 - n))))
  | .xor, .p (.int k n) => some (.p (.int k (k.wrap ((BitVec.ofInt k.bits (if k.signed then -1 else k.max) ^^^ BitVec.ofInt k.bits n).toNat))))
  | .neg, .p (.flt k b) => some (.p (.flt k (Op.negFloat k b)))
  | _, _ => none
def aconv (d : TI) (x : V) : Option V :=
  match d.d, x with
  | .int k, .p (.int _ n) => some (.p (.int k (k.wrap n)))
  | .float k, .p (.int _ n) => some (.p (.flt k (k.nearest n)))
  | .int k, .p (.flt s b) => match (s.decode b).toInt .zero with
    | some n => if k.min ≤ n ∧ n ≤ k.max then some (.p (.int k n)) else none
    | none => none
  | .float k, .p (.flt s b) => if s = k then some (.p (.flt k b)) else
    match s.decode b with
    | .nan _ _ => none
    | .infinity g => some (.p (.flt k (k.encode (.infinity g))))
    | .number g m e => if (k.decode (k.encode (.number g m e))).isInfinity then none else some (.p (.flt k (k.encode (.number g m e))))
  | .string, .p (.str s) => some (.p (.str s))
  | _, _ => none
def bytesOf : List PV → Option (List UInt8)
  | [] => some []
  | .int .u8 n :: r => match bytesOf r with | some l => some (UInt8.ofNat n.toNat :: l) | none => none
  | _ => none

def alen (H : Heap) (t : TI) (x : V) : Option Nat :=
  match t.d, x with
  | .string, .p (.str s) => some s.length
  | .array n _, _ => some n
  | .slice _, .p .nils => some 0
  | .slice _, .p (.sl _ xs) => some xs.length
  | .slice _, .ls id => (bufN H id).map (·.2)
  | .slice _, .lsub _ _ l => some l
  | .map _ _, .p (.mp ks _) => some ks.length
  | .map _ _, .lm id => match H[id]? with
    | some (.mp ks _) => some ks.length
    | some (.fm ks _) => some ks.length
    | _ => none
  | _, _ => none

def aindexAddr (E : Env) (H : Heap) (t : TI) (x i : V) : Option V :=
  match t.d, i with
  | .slice e, .p (.int _ n) => match E.ty e with
    | some te => match x with
      | .p (.sl k xs) => if k = te.ek ∧ 0 ≤ n ∧ n < (xs.length : Int) then some (.p (.pp k xs n.toNat 0)) else none
      | .ls id => match bufN H id with
        | some (k, m) => if k = te.ek ∧ 0 ≤ n ∧ n < (m : Int) then some (.lp id n.toNat 0) else none
        | none => none
      | .lsub id o l => match bufN H id with
        | some (k, m) => if k = te.ek ∧ 0 ≤ n ∧ n < (l : Int) ∧ o + l ≤ m then some (.lp id (o + n.toNat) 0) else none
        | none => none
      | _ => none
    | none => none
  | .array len e, .p (.int _ n) => match E.ty e with
    | some te => if 0 ≤ n ∧ n < (len : Int) then match x with
        | .p (.pp k xs i f) => some (.p (.pp k xs i (f + n.toNat * te.sz)))
        | .lp id i f => some (.lp id i (f + n.toNat * te.sz))
        | _ => none
      else none
    | none => none
  | _, _ => none
def aindex (t : TI) (x i : V) : Option V :=
  match t.d, x, i with
  | .string, .p (.str s), .p (.int _ n) => if 0 ≤ n then (match s[n.toNat]? with | some c => some (.p (.int .u8 (c.toNat : Int))) | none => none) else none
  | _, _, _ => none
def afieldAddr (E : Env) (t : TI) (x : V) (i : Nat) : Option V :=
  match t.d with
  | .struct fs => match fieldAt E fs i with
    | some (off, tf) => if tf.sz = 0 then none else match x with
      | .p (.pp k xs i f) => some (.p (.pp k xs i (f + off)))
      | .lp id i f => some (.lp id i (f + off))
      | _ => none
    | none => none
  | _ => none
def afield (E : Env) (t : TI) (x : V) (i : Nat) : Option V :=
  match t.d with
  | .struct fs => match fieldAt E fs i with
    | some (off, tf) => if isAggD tf.d then match x with
        | .p (.agg n cs) => if off + tf.sz ≤ n then some (.p (.agg tf.sz ((cs.drop off).take tf.sz))) else none
        | .agg n cs => if off + tf.sz ≤ n then some (.agg tf.sz ((cs.drop off).take tf.sz)) else none
        | _ => none
      else match x with
        | .p (.agg _ cs) => (cs[off]?).map .p
        | .agg _ cs => cs[off]?
        | _ => none
    | none => none
  | _ => none

def optInt : Option V → Option (Option Int)
  | none => some none
  | some (.p (.int _ n)) => some (some n)
  | _ => none
/-- The bounds l, h of a slice expression over n things. -/
def abounds (n : Nat) (lo hi : Option Int) : Option (Nat × Nat) :=
  match lo, hi with
  | none, none => some (0, n)
  | some l, none => if 0 ≤ l ∧ l ≤ (n : Int) then some (l.toNat, n) else none
  | none, some h => if 0 ≤ h ∧ h ≤ (n : Int) then some (0, h.toNat) else none
  | some l, some h => if 0 ≤ h ∧ h ≤ (n : Int) ∧ 0 ≤ l ∧ l ≤ h then some (l.toNat, h.toNat) else none
def aslice (E : Env) (H : Heap) (t : TI) (x : V) (lo hi : Option V) : Option V :=
  match optInt lo, optInt hi with
  | some lo, some hi => match t.d, x with
    | .string, .p (.str s) => match abounds s.length lo hi with
      | some (l, h) => some (.p (.str ((s.drop l).take (h - l))))
      | none => none
    | .slice e, x => match E.ty e, x with
      | some _, .p .nils => match abounds 0 lo hi with
        | some _ => some (.p .nils)
        | none => none
      | some te, .p (.sl k xs) => if k = te.ek then match abounds xs.length lo hi with
        | some (l, h) => some (.p (.sl k ((xs.drop l).take (h - l))))
        | none => none
        else none
      | some te, .ls id => match bufN H id with
        | some (k, m) => if k = te.ek then match abounds m lo hi with
          | some (l, h) => some (.lsub id l (h - l))
          | none => none
          else none
        | none => none
      | some te, .lsub id o n => match bufN H id with
        | some (k, m) => if k = te.ek ∧ o + n ≤ m then match abounds n lo hi with
          | some (l, h) => some (.lsub id (o + l) (h - l))
          | none => none
          else none
        | none => none
      | _, _ => none
    | _, _ => none
  | _, _ => none

def amakeSlice (E : Env) (H : Heap) (t : TI) (len cap : V) : R1 :=
  match t.d, len, cap with
  | .slice e, .p (.int _ l), .p (.int _ c) => match E.ty e with
    | some te =>
      if 0 ≤ l ∧ l ≤ c ∧ c ≤ 140737488355328 ∧ te.bytes * c ≤ 140737488355328 ∧ te.z.kd te.ek then
        some (.ls H.length, H ++ [.pu te.ek (List.replicate l.toNat te.z)], lg0)
      else none
    | none => none
  | _, _, _ => none

/-- What stands in a slice. -/
inductive Cont where
  | pu (xs : List PV)
  | mi (xs : List V)
def contOf (H : Heap) (te : TI) : V → Option Cont
  | .p .nils => some (.pu [])
  | .p (.sl k xs) => if k = te.ek then some (.pu xs) else none
  | .ls id => match H[id]? with
    | some (.pu k xs) => if k = te.ek then some (.pu xs) else none
    | some (.fz k xs) => if k = te.ek then some (.pu xs) else none
    | some (.mi k xs) => if k = te.ek then some (.mi xs) else none
    | _ => none
  | .lsub id o l => match H[id]? with
    | some (.pu k xs) => if k = te.ek ∧ o + l ≤ xs.length then some (.pu ((xs.drop o).take l)) else none
    | some (.fz k xs) => if k = te.ek ∧ o + l ≤ xs.length then some (.pu ((xs.drop o).take l)) else none
    | some (.mi k xs) => if k = te.ek ∧ o + l ≤ xs.length then some (.mi ((xs.drop o).take l)) else none
    | _ => none
  | .p (.str s) => if te.ek = ⟨1, false⟩ then some (.pu (s.map fun c => .int .u8 (c.toNat : Int))) else none
  | _ => none
def Cont.len : Cont → Nat
  | .pu xs => xs.length
  | .mi xs => xs.length
def joinC (k : EK) : Cont → Cont → Blk
  | .pu xs, .pu ys => .pu k (xs ++ ys)
  | .pu xs, .mi ys => .mi k (xs.map V.p ++ ys)
  | .mi xs, .pu ys => .mi k (xs ++ ys.map V.p)
  | .mi xs, .mi ys => .mi k (xs ++ ys)

/-- The blocks that name a number. -/
def blksWith (id : Nat) : Nat → Heap → List Nat
  | _, [] => []
  | i, b :: r => if mem id b.refs then i :: blksWith id (i + 1) r else blksWith id (i + 1) r
/-- append: the destination's number keeps; all else that names it is forgotten (the log's mv). -/
def aappendTo (H : Heap) (te : TI) (s x : V) : R1 :=
  match contOf H te s, contOf H te x with
  | some a, some b =>
    if (a.len + b.len) * (te.bytes + 1) ≤ 70368744177664 ∧ te.z.kd te.ek then
      match s with
      | .ls id => match H[id]? with
        | some (.fz ..) => none
        | _ => some (.ls id, (invH id H).set id ((joinC te.ek a b).inv id), ⟨[id], blksWith id 0 H⟩)
      | .lsub id _ _ => match H[id]? with
        | some (.fz ..) => none
        | _ => some (.ls id, (invH id H).set id ((joinC te.ek a b).inv id), ⟨[id], blksWith id 0 H⟩)
      | _ => none
    else none
  | _, _ => none
def aappend (E : Env) (H : Heap) (t : TI) (s x : V) : R1 :=
  match t.d with
  | .slice e => match E.ty e with
    | some te => match s with
      | .p .nils => match aappendTo (H ++ [.pu te.ek []]) te (.ls H.length) x with
        | some (v, H', l) => some (v, H', ⟨[], l.wr⟩)
        | none => none
      | s => aappendTo H te s x
    | none => none
  | _ => none

def aminmax (mx : Bool) (k : IntKind) : Int → List V → Option V
  | a, [] => some (.p (.int k a))
  | a, .p (.int k' b) :: r => if k = k' then aminmax mx k (if mx then (if b > a then b else a) else (if b < a then b else a)) r else none
  | _, _ => none

def keyEq : PV → PV → Option Bool
  | .str a, .str b => some (a == b)
  | .int k a, .int k' b => if k = k' then some (a == b) else none
  | .bool a, .bool b => some (a == b)
  | _, _ => none
def findKey (k : PV) : List PV → Nat → Option (Option Nat)
  | [], _ => some none
  | x :: r, i => match keyEq k x with
    | some true => some (some i)
    | some false => findKey k r (i + 1)
    | none => none
def keyTy : TypeDesc → PV → Bool
  | .string, .str _ => true
  | .int _, .int _ _ => true
  | .bool, .bool _ => true
  | _, _ => false
def mapOf (H : Heap) : V → Option (List PV × List PV)
  | .p (.mp ks vs) => some (ks, vs)
  | .lm id => match H[id]? with
    | some (.mp ks vs) => some (ks, vs)
    | some (.fm ks vs) => some (ks, vs)
    | _ => none
  | _ => none
def alookup (E : Env) (H : Heap) (t : TI) (m k : V) (ok : Bool) : Option V :=
  match t.d, mapOf H m, k with
  | .map kt et, some (ks, vs), .p k => match E.ty kt, E.ty et with
    | some tk, some te => if keyTy tk.d k then match findKey k ks 0 with
      | some (some i) => match vs[i]? with
        | some v => some (if ok then .tup [.p v, .p (.bool true)] else .p v)
        | none => none
      | some none => some (if ok then .tup [.p te.z, .p (.bool false)] else .p te.z)
      | none => none
      else none
    | _, _ => none
  | _, _, _ => none
def amapUpdate (E : Env) (H : Heap) (t : TI) (m k v : V) : Option Heap :=
  match t.d, m, k, v with
  | .map kt _, .lm id, .p k, .p v => match E.ty kt, H[id]? with
    | some tk, some (.mp ks vs) => if keyTy tk.d k then match findKey k ks 0 with
      | some (some i) => some (H.set id (.mp ks (vs.set i v)))
      | some none => some (H.set id (.mp (ks ++ [k]) (vs ++ [v])))
      | none => none
      else none
    | _, _ => none
  | _, _, _, _ => none

def fzAll (H : Heap) : List V → Option (List PV) := fzL (fzV fuelZ H)
/-- A result, of one part or of several, with all that it leads to frozen. -/
def fzRes (H : Heap) : V → Option V
  | .tup vs => (fzAll H vs).map fun l => .tup (l.map V.p)
  | v => (fzV fuelZ H v).map V.p
def PV.plain : PV → Bool
  | .bool _ | .int _ _ | .str _ | .flt _ _ => true
  | _ => false
def plainRes : V → Bool
  | .p x => x.plain
  | .tup vs => vs.all fun | .p x => x.plain | _ => false
  | .agg _ vs => vs.all fun | .p x => x.plain | _ => false
  | _ => false
/-- The answer of a function that runs in a heap of its own. -/
def PV.plainDeep : PV → Bool
  | .agg _ cs => cs.all PV.plain
  | x => x.plain
def plainV : V → Bool
  | .p x => x.plainDeep
  | .tup vs => vs.all fun | .p x => x.plainDeep | _ => false
  | _ => false

def liveIn (H : Heap) : List Nat → List Nat
  | [] => []
  | id :: r => match H[id]? with
    | some (.pu ..) | some (.mi ..) | some (.mp ..) => id :: liveIn H r
    | _ => liveIn H r
/-- The program's functions, with the fuel that is left. -/
abbrev Run := FuncId → List V → Heap → R1

def inAll (ids : List Nat) : List Nat → Bool
  | [] => true
  | i :: r => mem i ids && inAll ids r
/-- Whatever these blocks name is among them. -/
def closedB (H : Heap) (ids : List Nat) : List Nat → Bool
  | [] => true
  | i :: r => (match H[i]? with | some b => inAll ids b.refs | none => true) && closedB H ids r
def acallF (E : Env) (run : Run) (H : Heap) (f : V) (args : List V) : R1 :=
  match f with
  | .p (.fn (.func id) cs) => go id (args ++ cs.map V.p)
  | .fn (.func id) cs => go id (args ++ cs)
  | _ => none
where go (id : FuncId) (args : List V) : R1 :=
  match E.fns id with
  | some (.ext g) => match allPure args with
    | some xs => match g xs with | some x => some (.p x, H, lg0) | none => none
    | none => none
  | some (.code _ .loc) => run id args H
  | some (.code _ .bor) => match fzAll H args with
    | some xs => match run id (xs.map V.p) [] with
      | some (v, H', _) => match fzRes H' v with
        | some r => if plainV r then some (r, H, lg0) else none
        | none => none
      | none => none
    | none => none
  | some (.code _ .frz) => match (if inAll (reach H args) (V.refs.refsL args) && closedB H (reach H args) (reach H args) then fzAll H args else none), fzIds H (reach H args) 0 H with
    | some xs, some H1 => match run id (xs.map V.p) [] with
      | some (v, H', _) => match fzRes H' v with
        | some r => some (r, H1, ⟨[], liveIn H (reach H args)⟩)
        | none => none
      | none => none
    | _, _ => none
  | none => none

def oOpt : Option V → (V → R1) → R1
  | some v, k => k v
  | none, _ => none
def pureR (H : Heap) : Option V → R1
  | some v => some (v, H, lg0)
  | none => none
def heapR (a : V) : Option Heap → R1
  | some H => some (und, H, ⟨[], a.refs⟩)
  | none => none

def notInt (t : Option TI) : Bool :=
  match t with
  | some t => match t.d with
    | .slice _ => true
    | .string => true
    | _ => false
  | none => false
def abuiltin (E : Env) (H : Heap) (b : Builtin) (t t2 : Option TI) (args : List V) : R1 :=
  match b, args with
  | .len, [x] => match t with
    | some t => match alen H t x with | some n => some (.p (.int .i64 (n : Int)), H, lg0) | none => none
    | none => none
  | .append, [s, x] => match t with | some t => if notInt t2 then aappend E H t s x else none | none => none
  | .max, .p (.int k a) :: l => pureR H (aminmax true k a l)
  | .min, .p (.int k a) :: l => pureR H (aminmax false k a l)
  | _, _ => none

/-- The constant nil of a slice. -/
def isNilSl : Operand → Bool
  | .const (.slice a l c) => match a with | none => l == 0 && c == 0 | some _ => false
  | _ => false
def aop (E : Env) (run : Run) (ev : Operand → V) (H : Heap) (o : Oper) : R1 :=
  match o.op with
  | .move x => some (ev x, H, lg0)
  | .assign x => if isNilSl x then match E.ty o.type with
    | some t => match t.d with
      | .slice e => match E.ty e with
        | some te => some (.ls H.length, H ++ [.pu te.ek []], lg0)
        | none => none
      | _ => some (ev x, H, lg0)
    | none => some (ev x, H, lg0)
    else some (ev x, H, lg0)
  | .pick c a b => match ev c with
    | .p (.bool t) => some (if t then ev a else ev b, H, lg0)
    | _ => none
  | .alloc t => match E.ty t with | some t => aboxed H t.ek (.p t.z) | none => none
  | .box t v => match E.ty t with | some t => aboxed H t.ek (ev v) | none => none
  | .build t ps => match E.ty t with | some t => pureR H (abuild E t (ps.toList.map fun (i, x) => (i, ev x))) | none => none
  | .buildSlice t n ps => match E.ty t with | some t => abuildSlice E H t n (ps.toList.map fun (i, x) => (i, ev x)) | none => none
  | .load t a => match E.ty t with | some t => pureR H (aload H t (ev a)) | none => none
  | .store t a v => match E.ty t with | some t => heapR (ev a) (astore H t (ev a) (ev v)) | none => none
  | .nilCheck x => match nilK (ev x) with | some (.ptr, false) => some (ev x, H, lg0) | _ => none
  | .binOp op t x y _ => match E.ty t with | some t => pureR H (abin (isConstO x || isConstO y) t op (ev x) (ev y)) | none => none
  | .unOp op _ x => pureR H (aun op (ev x))
  | .convert s d x => match E.ty s, E.ty d with | some _, some d => pureR H (aconv d (ev x)) | _, _ => none
  | .makeFunc f first cs => if first.isEmpty then
      (let vs := cs.toList.map ev
       match allPure vs with
       | some xs => some (.p (.fn f xs), H, lg0)
       | none => some (.fn f vs, H, lg0))
      else none
  | .makeMap _ none => some (.lm H.length, H ++ [.mp [] []], lg0)
  | .makeSlice t l c => match E.ty t with | some t => amakeSlice E H t (ev l) (ev c) | none => none
  | .slice t x lo hi none => match E.ty t with | some t => pureR H (aslice E H t (ev x) (lo.map ev) (hi.map ev)) | none => none
  | .fieldAddr t x i => match E.ty t with | some t => pureR H (afieldAddr E t (ev x) i) | none => none
  | .field t x i => match E.ty t with | some t => pureR H (afield E t (ev x) i) | none => none
  | .indexAddr t x i => match E.ty t with | some t => pureR H (aindexAddr E H t (ev x) (ev i)) | none => none
  | .index t x i => match E.ty t with | some t => pureR H (aindex t (ev x) (ev i)) | none => none
  | .lookup t m k ok => match E.ty t with | some t => pureR H (alookup E H t (ev m) (ev k) ok) | none => none
  | .mapUpdate t m k v => match E.ty t with | some t => heapR (ev m) (amapUpdate E H t (ev m) (ev k) (ev v)) | none => none
  | .extract x i => match ev x with | .tup vs => pureR H vs[i]? | _ => none
  | .call c => match c.callee with
    | .builtin b => abuiltin E H b ((c.argTypes[0]?).bind E.ty) ((c.argTypes[1]?).bind E.ty) (c.args.toList.map ev)
    | .value f => acallF E run H (ev f) (c.args.toList.map ev)
    | .invoke _ _ => none
  | _ => none

/-- Is an operation wanted? none: not known. -/
def awanted (ops : List Oper) (s : St) (o : Oper) : Option Bool :=
  match o.guard with
  | none => some true
  | some (j, want) => match ops[j]? with
    | some g => match g.dst with
      | some d => match s.tm.getD d und with
        | .p (.bool b) => some (b == want)
        | .tup _ => some false
        | _ => none
      | none => some false
    | none => some false

def invTm (ids : List Nat) (tm : List V) : List V :=
  match ids with
  | [] => tm
  | id :: r => invTm r (V.inv.invL id tm)
def addIds : List Nat → List Nat → List Nat
  | [], l => l
  | i :: r, l => if mem i l then addIds r l else addIds r (i :: l)

def addLg (a b : Lg) : Lg := ⟨addIds a.mv b.mv, addIds a.wr b.wr⟩
def astep (E : Env) (run : Run) (ops : List Oper) (s : St) (o : Oper) : Option St :=
  match awanted ops s o with
  | some true => match aop E run s.ev s.H o with
    | some (v, H', l) => some (St.put ⟨invTm l.mv s.tm, H', addLg l s.lg⟩ o.dst v)
    | none => none
  | some false => some (s.put o.dst und)
  | none => none
def asteps (E : Env) (run : Run) (ops : List Oper) : List Oper → St → Option St
  | [], s => some s
  | o :: r, s => match astep E run ops s o with
    | some s' => asteps E run ops r s'
    | none => none

/- A region whose order is open. A place: 2 t, a temporary; 2 id + 1, a block. -/
def tmpsOf : List Operand → List Nat
  | [] => []
  | .tmp t :: r => 2 * t :: tmpsOf r
  | _ :: r => tmpsOf r
def touches : Op → Bool
  | .load .. | .store .. | .indexAddr .. | .slice .. | .binOp .. | .lookup .. | .mapUpdate .. | .nilCheck _ => true
  | .call _ => true
  | _ => false
def isCall : Op → Bool
  | .call { callee := .value _, .. } => true
  | _ => false
def opVals (s : St) (o : Oper) : List V := o.op.operands.toList.map s.ev
def idsOf (s : St) (o : Oper) : List Nat :=
  if isCall o.op then reach s.H (opVals s o)
  else if touches o.op then V.refs.refsL (opVals s o) else []
def guardTmp (ops : List Oper) (o : Oper) : List Nat :=
  match o.guard with
  | some (j, _) => match ops[j]? with
    | some g => match g.dst with | some d => [2 * d] | none => []
    | none => []
  | none => []
def dstOf (o : Oper) : List Nat := match o.dst with | some d => [2 * d] | none => []
def fromTo (a : Nat) : Nat → List Nat
  | 0 => []
  | n + 1 => (2 * a + 1) :: fromTo (a + 1) n
def odds : List Nat → List Nat
  | [] => []
  | i :: r => (2 * i + 1) :: odds r
def allLt (m : Nat) : List Nat → Bool
  | [] => true
  | i :: r => decide (i < m) && allLt m r
def blksLt (m : Nat) : Nat → Heap → Bool
  | 0, _ => true
  | n + 1, b :: r => allLt m b.refs && blksLt m n r
  | _, [] => true
structure Foot where
  rd : List Nat
  wr : List Nat
  bar : Bool
def tmNums : List Operand → List Nat
  | [] => []
  | .tmp t :: r => t :: tmNums r
  | _ :: r => tmNums r
/-- Only the temporaries that the operation reads. -/
def evR (s : St) (o : Oper) : Operand → V
  | .tmp t => if mem t (tmNums o.op.operands.toList) then s.tm.getD t (.p .undef) else .p .undef
  | x => s.ev x
def idsLt (H : Heap) : List Nat → Bool
  | [] => true
  | id :: r => (match H[id]? with | some b => allLt H.length b.refs | none => false) && idsLt H r
def dstep (E : Env) (run : Run) (ops : List Oper) (s : St) (o : Oper) : Option (Foot × St) :=
  match awanted ops s o with
  | some true =>
    let ids := idsOf s o
    match aop E run (evR s o) (restr ids 0 s.H) o with
    | some (v, H', l) =>
      if l.mv.isEmpty then
        if allLt s.H.length (V.refs.refsL (opVals s o)) && idsLt s.H ids then
          let H1 := merge ids 0 s.H H'
          some (⟨guardTmp ops o ++ tmpsOf o.op.operands.toList ++ odds ids, dstOf o ++ odds l.wr ++ fromTo s.H.length (H1.length - s.H.length), false⟩, St.put ⟨s.tm, H1, addLg l s.lg⟩ o.dst v)
        else none
      else match aop E run s.ev s.H o with
        | some (v, H', l) =>
          if allLt s.H.length (V.refs.refsL s.tm) && blksLt s.H.length s.H.length s.H then
            some (⟨[], [], true⟩, St.put ⟨invTm l.mv s.tm, H', addLg l s.lg⟩ o.dst v)
          else none
        | none => none
    | none => none
  | some false => some (⟨guardTmp ops o, dstOf o, false⟩, s.put o.dst und)
  | none => none
def dsteps (E : Env) (run : Run) (ops : List Oper) : List Oper → St → Option (List Foot × St)
  | [], s => some ([], s)
  | o :: r, s => match dstep E run ops s o with
    | some (f, s') => match dsteps E run ops r s' with
      | some (fs, s'') => some (f :: fs, s'')
      | none => none
    | none => none
def apartL : List Nat → List Nat → Bool
  | [], _ => true
  | a :: r, l => !(mem a l) && apartL r l
def footsApart (a b : Foot) : Bool := apartL a.wr b.rd && (apartL a.wr b.wr && apartL b.wr a.rd)
/-- Those ahead of the j-th that it need not follow are apart from it. -/
def oneOk (m : Nat) (f : Foot) : Nat → List Foot → Bool
  | _, [] => true
  | i, g :: r => (m.testBit i || (!f.bar && (!g.bar && footsApart f g))) && oneOk m f (i + 1) r
def footsOk : List Nat → List Foot → List Foot → Bool
  | m :: ms, f :: fs, before => oneOk m f 0 before && footsOk ms fs (before ++ [f])
  | [], [], _ => true
  | _, _, _ => false
/-- Each edge leads back. -/
def edgesBack : Nat → List Oper → Bool
  | _, [] => true
  | j, o :: r => (o.after.toList.all fun e => !(Region.binds .any e) || decide (e.on < j)) && edgesBack (j + 1) r
def adraw (E : Env) (run : Run) (ops : List Oper) (s : St) : Option St :=
  match dsteps E run ops ops s with
  | some (fs, s') => if footsOk (Region.before ops.toArray).toList fs [] && edgesBack 0 ops then some s' else none
  | none => none

inductive Ex where
  | normal
  | exit (id : Nat)
  | ret

def normTm : List V → List V
  | [] => []
  | .tup [] :: r => .p .undef :: normTm r
  | v :: r => v :: normTm r
def gcTm : List V → List V → List V
  | .p .undef :: r, _ :: r' => .p .undef :: gcTm r r'
  | _ :: r, v :: r' => v :: gcTm r r'
  | [], l => l
  | _ :: _, [] => []
def maxId : List Nat → Nat → Nat
  | [], m => m
  | i :: r, m => if i < m then maxId r m else maxId r (i + 1)
def blkMax : Nat → Heap → Nat → Nat
  | 0, _, m => m
  | n + 1, b :: r, m => blkMax n r (maxId b.refs m)
  | _, [], m => m
def gcLen : Nat → Heap → Nat → Nat
  | 0, H, _ => H.length
  | n + 1, H, m => if blkMax m H m ≤ m then m else gcLen n H (blkMax m H m)
def gc (s s' : St) : St :=
  let tm := gcTm s.tm s'.tm
  let m := gcLen 9 s'.H (maxId (V.refs.refsL tm) s.H.length)
  if decide (s.H.length ≤ m) && (allLt m (V.refs.refsL tm) && blksLt m m s'.H) then ⟨tm, s'.H.take m, s'.lg⟩ else ⟨tm, s'.H, s'.lg⟩

abbrev RC := Option (Ex × St)
def acodeF (E : Env) (run : Run) (rec : Code → St → RC) : Code → St → RC
  | .skip, s => some (.normal, s)
  | .region _ ops draw, s => match (if draw then adraw E run ops.toList s else asteps E run ops.toList ops.toList s) with
    | some s' => some (.normal, s')
    | none => none
  | .seq a b, s => match rec a s with
    | some (.normal, s') => rec b s'
    | r => r
  | .cond c a b, s => match s.ev c with
    | .p (.bool t) => match t with
      | true => rec a s
      | false => rec b s
    | _ => none
  | .block id c, s => match rec c s with
    | some (.exit j, s') => if j = id then some (.normal, s') else some (.exit j, s')
    | r => r
  | .loop c, s =>
    let s0 : St := { s with tm := normTm s.tm }
    match rec c s0 with
    | some (.normal, s') => rec (.loop c) (gc s0 s')
    | r => r
  | .exit id, s => some (.exit id, s)
  | .ret, s => some (.ret, s)
  | _, _ => none

def ares (E : Env) (s : St) : List ResultVar → Option (List V)
  | [] => some []
  | .tmp t :: r => match ares E s r with
    | some l => some (s.tm.getD t (.p .undef) :: l)
    | none => none
  | .cell a t :: r => match E.ty t, ares E s r with
    | some t, some l => match aload s.H t (s.tm.getD a (.p .undef)) with
      | some v => some (v :: l)
      | none => none
    | _, _ => none
def oneRes : List V → V
  | [v] => v
  | l => .tup l

def below (n : Nat) : List Nat → List Nat
  | [] => []
  | i :: r => if i < n then i :: below n r else below n r
def acode (E : Env) : Nat → Code → St → RC
  | 0, _, _ => none
  | n + 1, c, s => acodeF E (fun f args H => arun (acode E n) f args H) (acode E n) c s
where arun (rec : Code → St → RC) : Run := fun f args H =>
  match E.fns f with
  | some (.code F _) => match F.body with
    | some c => match rec c ⟨args ++ List.replicate (F.ntmps - args.length) und, H, lg0⟩ with
      | some (.exit _, _) => none
      | some (_, s) => match ares E s F.results.toList with
        | some l => some (oneRes l, s.H, ⟨below H.length s.lg.mv, below H.length s.lg.wr⟩)
        | none => none
      | none => none
    | none => none
  | _ => none
def acall (E : Env) (n : Nat) : Run := acode.arun E (acode E n)
end Go.Ab
