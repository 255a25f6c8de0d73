/- A symbolic executor over the model's code, generic over what its leaves are: over propositions it is a verification condition (XSound), over text it prints one. -/
import Derived.Test.YtkekehngillblaaXAny
namespace Go.Vcg

/-- What the leaves are: integers, truths, strings, addresses that may be nil, addresses, lengths, whole values, whole arrays, maps, worlds, endings; what comes out. -/
structure Car where
  (I B S O D N V L M W E J R : Type)

/-- A truth, as far as it is known how it came about. -/
inductive BX (C : Car) where
  | var (b : C.B)
  | icmp (op : BinOp) (a b : C.I)
  | scmp (op : BinOp) (a b : C.S)
  | isNil (o : C.O)
  | isNilM (m : C.M)
  | not (a : BX C)

/-- A value, as far as its form is known. -/
inductive SV (C : Car) where
  | bool (b : BX C)
  | blit (b : Bool)
  | int (k : IntKind) (n : C.I)
  | ilit (k : IntKind) (n : Int)
  | str (s : C.S)
  | ptr (o : C.O)
  | addr (d : C.D)
  | slice (o : C.O) (len cap : C.N)
  | map (m : C.M)
  | func (fn : Fn) (first cap : List (SV C))
  | iface (t : TypeId) (v : SV C)
  | nilIface
  | nilFunc
  | agg (cs : List (SV C))
  | big (n : Nat) (l : C.L)
  | tup (vs : List (SV C))
  | raw (v : C.V)

/-- The form of one cell. -/
inductive Cell where
  | int (k : IntKind) | bool | str | ptr | slice | map | raw
  deriving DecidableEq, Repr, Inhabited
inductive Shape1 where
  | cell (c : Cell)
  | agg (cs : List Cell)
  | big (n : Nat)
  deriving Repr, Inhabited
inductive Shape where
  | one (s : Shape1)
  | tup (ss : List Shape1)
  deriving Repr, Inhabited

abbrev Env (C : Car) := List (Nat × SV C)
def getS {C : Car} : Env C → Nat → SV C
  | [], _ => .tup []
  | (u, v) :: r, t => bif Nat.beq u t then v else getS r t

structure Alg (C : Car) where
  il : Int → C.I
  nl : Nat → C.N
  sl : ByteArray → C.S
  onil : C.O
  osome : C.D → C.O
  mnil : C.M
  dl : Nat → Nat → C.D
  wrap : IntKind → C.I → C.I
  add : C.I → C.I → C.I
  sub : C.I → C.I → C.I
  mul : C.I → C.I → C.I
  tdiv : C.I → C.I → C.I
  tmod : C.I → C.I → C.I
  fdiv : C.I → C.I → C.I
  bits : BinOp → IntKind → C.I → C.I → C.I
  shl : IntKind → C.I → C.I → C.I
  shr : IntKind → C.I → C.I → C.I
  ssize : C.S → C.N
  sext : C.S → C.N → C.N → C.S
  sat : C.S → C.N → C.I
  n2i : C.N → C.I
  i2n : C.I → C.N
  nsub : C.N → C.N → C.N
  nmul : C.N → Nat → C.N
  dadd : C.D → C.N → C.D
  osub : C.O → C.N → C.N → Nat → C.O
  dsub : C.D → Nat → C.N → Nat → C.D
  lext : C.L → Nat → Nat → C.L
  lget : C.L → Nat → C.V
  lconst : Value → C.L
  vlit : Value → C.V
  lput : C.L → Nat → List (SV C) → C.L
  lputL : C.L → Nat → Nat → C.L → C.L
  junk : C.J → Nat → C.V
  /-- v fills one cell -/
  one : C.V → C.R → C.R
  /-- l has n cells -/
  lsz : C.L → Nat → C.R → C.R
  fail : String → C.R
  and : C.R → C.R → C.R
  imp : BX C → Bool → C.R → C.R
  exI : (C.I → C.R) → C.R
  exB : (C.B → C.R) → C.R
  exS : (C.S → C.R) → C.R
  exO : (C.O → C.R) → C.R
  exD : (C.D → C.R) → C.R
  exN : (C.N → C.R) → C.R
  exV : (C.V → C.R) → C.R
  exL : (C.L → C.R) → C.R
  exM : (C.M → C.R) → C.R
  allI : (C.I → C.R) → C.R
  allB : (C.B → C.R) → C.R
  allS : (C.S → C.R) → C.R
  allO : (C.O → C.R) → C.R
  allN : (C.N → C.R) → C.R
  allV : (C.V → C.R) → C.R
  allL : (C.L → C.R) → C.R
  allM : (C.M → C.R) → C.R
  cellEq : C.W → C.D → SV C → C.R → C.R
  cellsEq : C.W → C.D → Nat → C.L → C.R → C.R
  endEq : C.E → SV C → C.R → C.R
  valEq : C.V → SV C → C.R → C.R
  okO : C.O → C.D → C.R → C.R
  /-- 0 ≤ i < n -/
  rng : C.I → C.N → C.R → C.R
  /-- 0 ≤ i ≤ n -/
  rle : C.I → C.N → C.R → C.R
  /-- a ≤ b -/
  nle : C.N → C.N → C.R → C.R
  neZ : C.I → C.R → C.R
  geZ : C.I → C.R → C.R
  ifNil : C.V → C.R → C.R → C.R
  isIf : C.V → C.R → C.R
  okM : C.V → String → C.R → C.R
  imax : C.I → C.I → C.I
  imin : C.I → C.I → C.I
  st : C.W → C.D → SV C → (C.W → C.R) → C.R
  new : TypeId → List (SV C) → C.W → (C.D → C.W → C.R) → C.R
  newL : TypeId → Nat → C.L → C.W → (C.D → C.W → C.R) → C.R
  drew : C.W → (C.W → C.R) → C.R
  call : FuncId → List (SV C) → C.W → (C.E → C.W → C.R) → C.R
  callV : C.V → List (SV C) → C.W → (C.E → C.W → C.R) → C.R
  callM : C.V → String → List (SV C) → C.W → (C.E → C.W → C.R) → C.R
  ext : FuncId → List (SV C) → C.W → (C.V → C.W → C.R) → C.R
  read : Oper → (Operand → SV C) → C.W → (C.V → C.R) → C.R
  reread : Oper → (Operand → SV C) → SV C → C.W → C.R → C.R
  run : Oper → (Operand → SV C) → C.W → (C.V → C.W → C.R) → C.R
  runU : Oper → (Operand → SV C) → C.W → (C.W → C.R) → C.R
  done : SV C → C.W → C.R
  join : List Shape1 → ((List (SV C) → C.W → C.R) → C.R) → (List (SV C) → C.J → C.W → C.R) → C.R
  loop : List Shape1 → List (SV C) → C.W → (List (SV C) → C.J → C.W → (List (SV C) → C.W → C.R) → C.R) → C.R

section
variable {C : Car} (A : Alg C) (P : Program)

def und (t : TypeId) : TypeDesc := (P.underlying t).getD .invalid
def tsize (t : TypeId) : Nat := ((P.info? t).map (·.size)).getD 0
def cellOf : TypeDesc → Cell
  | .int k => .int k
  | .bool => .bool
  | .string => .str
  | .pointer _ => .ptr
  | .slice _ => .slice
  | .map _ _ => .map
  | _ => .raw
def isAggT : TypeDesc → Bool
  | .struct _ | .array _ _ => true
  | _ => false
/-- The cells of a type, one behind the other. -/
def cellsT : Nat → TypeId → List Cell
  | 0, _ => []
  | n + 1, t => match und P t with
    | .struct fs => fs.toList.flatMap fun f => cellsT n f.type
    | .array k e => (List.replicate k (cellsT n e)).flatten
    | d => [cellOf d]
def mostSmall : Nat := 8
def shape1 (t : TypeId) : Shape1 :=
  match und P t with
  | .struct _ | .array _ _ => if tsize P t ≤ mostSmall ∧ (cellsT P 8 t).length = tsize P t then .agg (cellsT P 8 t) else .big (tsize P t)
  | d => .cell (cellOf d)
def shapeT (t : TypeId) : Shape :=
  match und P t with
  | .tuple ts => .tup (ts.toList.map (shape1 P))
  | _ => .one (shape1 P t)

def exCell : Cell → (SV C → C.R) → C.R
  | .int k, f => A.exI fun n => f (.int k n)
  | .bool, f => A.exB fun b => f (.bool (.var b))
  | .str, f => A.exS fun s => f (.str s)
  | .ptr, f => A.exO fun o => f (.ptr o)
  | .slice, f => A.exO fun o => A.exN fun l => A.exN fun c => f (.slice o l c)
  | .map, f => A.exM fun m => f (.map m)
  | .raw, f => A.exV fun v => f (.raw v)
def exCells : List Cell → (List (SV C) → C.R) → C.R
  | [], f => f []
  | c :: cs, f => exCell A c fun v => exCells cs fun vs => f (v :: vs)
def exShape1 : Shape1 → (SV C → C.R) → C.R
  | .cell c, f => exCell A c f
  | .agg cs, f => exCells A cs fun vs => f (.agg vs)
  | .big n, f => A.exL fun l => f (.big n l)
def exShapes1 : List Shape1 → (List (SV C) → C.R) → C.R
  | [], f => f []
  | s :: ss, f => exShape1 A s fun v => exShapes1 ss fun vs => f (v :: vs)
def exShape : Shape → (SV C → C.R) → C.R
  | .one s, f => exShape1 A s f
  | .tup ss, f => exShapes1 A ss fun vs => f (.tup vs)
def allCell : Cell → (SV C → C.R) → C.R
  | .int k, f => A.allI fun n => f (.int k n)
  | .bool, f => A.allB fun b => f (.bool (.var b))
  | .str, f => A.allS fun s => f (.str s)
  | .ptr, f => A.allO fun o => f (.ptr o)
  | .slice, f => A.allO fun o => A.allN fun l => A.allN fun c => f (.slice o l c)
  | .map, f => A.allM fun m => f (.map m)
  | .raw, f => A.allV fun v => f (.raw v)
def allCells : List Cell → (List (SV C) → C.R) → C.R
  | [], f => f []
  | c :: cs, f => allCell A c fun v => allCells cs fun vs => f (v :: vs)
def allShape1 : Shape1 → (SV C → C.R) → C.R
  | .cell c, f => allCell A c f
  | .agg cs, f => allCells A cs fun vs => f (.agg vs)
  | .big n, f => A.allL fun l => f (.big n l)

/-- One cell's constant. -/
def ofCell : Value → SV C
  | .bool b => .blit b
  | .int k n => .ilit k n
  | .string s => .str (A.sl s)
  | .pointer o => match o with
    | none => .ptr A.onil
    | some d => match d.spot with
      | none => .addr (A.dl d.block d.off)
      | some _ => .raw (A.vlit (.pointer (some d)))
  | .slice o l c => match o with
    | none => .slice A.onil (A.nl l) (A.nl c)
    | some _ => .raw (A.vlit (.slice o l c))
  | .map m => match m with
    | none => .map A.mnil
    | some _ => .raw (A.vlit (.map m))
  | .nilIface => .nilIface
  | .nilFunc => .nilFunc
  | .tuple vs => if vs.size = 0 then .tup [] else .raw (A.vlit (.tuple vs))
  | v => .raw (A.vlit v)
def zeroSVs : Value → List (SV C)
  | .agg cs => cs.toList.map (ofCell A)
  | z => [ofCell A z]
def ofVal : Value → SV C
  | .agg cs => if cs.size ≤ mostSmall then .agg (cs.toList.map (ofCell A)) else .big cs.size (A.lconst (.agg cs))
  | .iface t v => .iface t (ofCell A v)
  | v => ofCell A v
def ev (env : Env C) : Operand → SV C
  | .tmp t => getS env t
  | .const v => ofVal A v
  | .global g => .addr (A.dl g 0)
  | .func f => .func (.func f) [] []

def asI : SV C → Option (IntKind × C.I)
  | .int k n => some (k, n)
  | .ilit k n => some (k, A.il n)
  | _ => none
def asO : SV C → Option C.O
  | .ptr o => some o
  | .addr d => some (A.osome d)
  | _ => none

def litCmp : BinOp → Int → Int → Option Bool
  | .eql, a, b => some (a == b)
  | .neq, a, b => some (a != b)
  | .lss, a, b => some (decide (a < b))
  | .leq, a, b => some (decide (a ≤ b))
  | .gtr, a, b => some (decide (a > b))
  | .geq, a, b => some (decide (a ≥ b))
  | _, _, _ => none

/-- Binary operators on integers and strings; 'none': no form of these. -/
def binS (op : BinOp) (x y : SV C) (k : SV C → C.R) : Option C.R :=
  match x, y with
  | .str a, .str b =>
    match op with
    | .eql | .neq | .lss | .leq | .gtr | .geq => some (k (.bool (.scmp op a b)))
    | _ => none
  | .ilit ka a, .ilit kb b =>
    match op with
    | .add => if ka = kb then some (k (.ilit ka (ka.wrap (a + b)))) else none
    | .sub => if ka = kb then some (k (.ilit ka (ka.wrap (a - b)))) else none
    | .mul => if ka = kb then some (k (.ilit ka (ka.wrap (a * b)))) else none
    | _ => match litCmp op a b with
      | some t => if ka = kb then some (k (.blit t)) else none
      | none => none
  | x, y =>
    match asI A x, asI A y with
    | some (ka, a), some (kb, b) =>
      match op with
      | .shl => match y with
        | .ilit _ c => if 0 ≤ c then some (k (.int ka (A.wrap ka (A.mul a (A.il (2 ^ min c.toNat ka.bits)))))) else none
        | _ => some (A.geZ b (k (.int ka (A.shl ka a b))))
      | .shr => match y with
        | .ilit _ c => if 0 ≤ c then some (k (.int ka (A.fdiv a (A.il (2 ^ min c.toNat ka.bits))))) else none
        | _ => some (A.geZ b (k (.int ka (A.shr ka a b))))
      | _ =>
        if ka = kb then
          match op with
          | .add => some (k (.int ka (A.wrap ka (A.add a b))))
          | .sub => some (k (.int ka (A.wrap ka (A.sub a b))))
          | .mul => some (k (.int ka (A.wrap ka (A.mul a b))))
          | .quo => match y with
            | .ilit _ c => if c = 0 then none else some (k (.int ka (A.wrap ka (A.tdiv a b))))
            | _ => some (A.neZ b (k (.int ka (A.wrap ka (A.tdiv a b)))))
          | .rem => match y with
            | .ilit _ c => if c = 0 then none else some (k (.int ka (A.tmod a b)))
            | _ => some (A.neZ b (k (.int ka (A.tmod a b))))
          | .and | .or | .xor | .andNot => some (k (.int ka (A.bits op ka a b)))
          | .eql | .neq | .lss | .leq | .gtr | .geq => some (k (.bool (.icmp op a b)))
          | _ => none
        else none
    | _, _ => none

/-- What a comparison with nil comes to. -/
inductive NilV (C : Car) where
  | b (x : BX C)
  | lit (b : Bool)
  | either (v : C.V)
def nilV (d : TypeDesc) (cx cy : Bool) (x y : SV C) : Option (NilV C) :=
  match d, x, y with
  | .interface _, .nilIface, .nilIface => if cx || cy then some (.lit true) else none
  | .interface _, .iface _ _, .nilIface => some (.lit false)
  | .interface _, .nilIface, .iface _ _ => some (.lit false)
  | .interface _, .raw v, .nilIface => if cx || cy then some (.either v) else none
  | .pointer _, .ptr o, .ptr _ => if cy then some (.b (.isNil o)) else none
  | .pointer _, .addr _, .ptr _ => if cy then some (.lit false) else none
  | .slice _, .slice o _ _, .slice _ _ _ => if cy then some (.b (.isNil o)) else none
  | .map _ _, .map o, .map _ => if cy then some (.b (.isNilM o)) else none
  | _, _, _ => none
def nilK (A : Alg C) (neg : Bool) (k : SV C → C.R) : NilV C → C.R
  | .b x => k (.bool (if neg then .not x else x))
  | .lit b => k (.blit (if neg then !b else b))
  | .either v => A.ifNil v (k (.blit (!neg))) (k (.blit neg))
/-- '==', '!=' against nil: the operand's type is a pointer's, a slice's, a map's, an interface's. -/
def nilS (op : BinOp) (d : TypeDesc) (cx cy : Bool) (x y : SV C) (k : SV C → C.R) : Option C.R :=
  match op with
  | .eql => (nilV d cx cy x y).map (nilK A false k)
  | .neq => (nilV d cx cy x y).map (nilK A true k)
  | _ => none

def isConstNil : Operand → Bool
  | .const .nilIface | .const (.pointer none) | .const (.slice none _ _) | .const (.map none) => true
  | _ => false

/-- Values whose form is not known fill one cell each. -/
def ones : List (SV C) → C.R → C.R
  | [], r => r
  | .raw v :: vs, r => A.one v (ones vs r)
  | _ :: vs, r => ones vs r
/-- The cells of a value that is stored or boxed: small ones, one by one. -/
def cellsOfS : SV C → Option (List (SV C))
  | .agg cs => some cs
  | .big _ _ => none
  | .tup _ => none
  | v => some [v]

def setFrom : List (SV C) → Nat → List (SV C) → List (SV C)
  | l, _, [] => l
  | l, i, v :: vs => setFrom (l.set i v) (i + 1) vs

/-- A struct or an array out of its parts: small: a list of cells. -/
def buildSmall (place : Nat → Option (Nat × Nat)) (ev : Operand → SV C) : List (SV C) → List (Nat × Operand) → Option (List (SV C))
  | cells, [] => some cells
  | cells, (i, x) :: rest => match place i with
    | none => none
    | some (off, size) => match cellsOfS (ev x) with
      | none => none
      | some vs => if vs.length = size ∧ off + size ≤ cells.length then buildSmall place ev (setFrom cells off vs) rest else none
def buildBig (place : Nat → Option (Nat × Nat)) (ev : Operand → SV C) (n : Nat) : C.L → List (Nat × Operand) → (C.L → C.R) → Option C.R
  | l, [], k => some (k l)
  | l, (i, x) :: rest, k => match place i with
    | none => none
    | some (off, size) =>
      match ev x with
      | .big m l' => if m = size ∧ off + size ≤ n then (buildBig place ev n (A.lputL l off m l') rest k).map (A.lsz l' m) else none
      | v => match cellsOfS v with
        | none => none
        | some vs => if vs.length = size ∧ off + size ≤ n then buildBig place ev n (A.lput l off vs) rest k else none
/-- Where a part of a struct or an array lies. -/
def placeFn (t : TypeId) : Option (Nat → Option (Nat × Nat)) :=
  match P.underlying t with
  | some (.array _ e) => match P.info? e with
    | some ie => some fun i => some (i * ie.size, ie.size)
    | none => none
  | some (.struct fields) => (fields.toList.mapM fun f => (P.info? f.type).map fun i => (f.offset, i.size)).map fun places i => places.toArray[i]?
  | _ => none
def zeroOf (t : TypeId) : Option Value := (P.info? t).bind (·.zero)

def partsEq : List (SV C) → C.L → Nat → Nat → C.R → C.R
  | [], _, _, _, r => r
  | v :: vs, l, off, i, r => A.valEq (A.lget l (off + i)) v (partsEq vs l off (i + 1) r)
/-- The part of an aggregate at some cells, of a type. -/
def partS (t : TypeId) (x : SV C) (off : Nat) (k : SV C → C.R) : Option C.R :=
  match shape1 P t, x with
  | .cell _, .agg cs => (cs[off]?).map k
  | .cell c, .big n l => if off < n then some (A.lsz l n (exCell A c fun sv => A.valEq (A.lget l off) sv (k sv))) else none
  | .agg ds, .agg cs => if off + ds.length ≤ cs.length then some (k (.agg ((cs.drop off).take ds.length))) else none
  | .agg ds, .big n l => if off + ds.length ≤ n then some (A.lsz l n (exCells A ds fun svs => partsEq A svs l off 0 (k (.agg svs)))) else none
  | .big m, .big n l => if off + m ≤ n then some (A.lsz l n (k (.big m (A.lext l off m)))) else none
  | _, _ => none

/-- A bound of a slice expression, as a length. -/
def boundS (x : SV C) (most : C.N) (k : C.N → C.R) : Option C.R :=
  match x with
  | .ilit _ n => if 0 ≤ n then some (A.nle (A.nl n.toNat) most (k (A.nl n.toNat))) else none
  | .int _ n => some (A.rle n most (k (A.i2n n)))
  | _ => none

/-- The upper bound of a slice expression. -/
def hiS (hi : Option (SV C)) (dflt most : C.N) (low : C.N → Option C.R) : Option C.R :=
  match hi with
  | none => low dflt
  | some (.ilit _ n) => if 0 ≤ n then (low (A.nl n.toNat)).map (A.nle (A.nl n.toNat) most) else none
  | some (.int _ n) => (low (A.i2n n)).map (A.rle n most)
  | _ => none
/-- The lower one; 'k0': it is 0. -/
def loS (lo : Option (SV C)) (h : C.N) (k0 : C.R) (k : C.N → C.R) : Option C.R :=
  match lo with
  | none => some k0
  | some (.ilit _ 0) => some k0
  | some x => boundS A x h k
def sliceS (t : TypeId) (x : SV C) (lo hi : Option (SV C)) (k : SV C → C.R) : Option C.R :=
  match und P t, x with
  | .slice e, .slice o len cap =>
    if (P.info? e).isSome then hiS A hi len cap fun h => loS A lo h (k (.slice o h cap)) fun l => k (.slice (A.osub o cap l (tsize P e)) (A.nsub h l) (A.nsub cap l)) else none
  | .array n e, .addr d =>
    if (P.info? e).isSome then hiS A hi (A.nl n) (A.nl n) fun h => loS A lo h (k (.slice (A.osome d) h (A.nl n))) fun l => k (.slice (A.osome (A.dsub d n l (tsize P e))) (A.nsub h l) (A.nsub (A.nl n) l)) else none
  | .string, .str s =>
    hiS A hi (A.ssize s) (A.ssize s) fun h => loS A lo h (k (.str (A.sext s (A.nl 0) h))) fun l => k (.str (A.sext s l h))
  | _, _ => none

/-- What yields its value in whatever world; 'none': not by these forms. -/
def pureOp (o : Oper) (ev : Operand → SV C) (k : SV C → C.R) : Option C.R :=
  match o.op with
  | .move x | .assign x => some (k (ev x))
  | .pick c a b => match ev c with
    | .blit t => some (k (if t then ev a else ev b))
    | .bool b' => some (A.and (A.imp b' true (k (ev a))) (A.imp b' false (k (ev b))))
    | _ => none
  | .build t parts => match zeroOf P t, placeFn P t with
    | some (.agg cs), some place =>
      if cs.size ≤ mostSmall then (buildSmall place ev (cs.toList.map (ofCell A)) parts.toList).map fun l => ones A (parts.toList.map fun p => ev p.2) (k (.agg l))
      else (buildBig A place ev cs.size (A.lconst (.agg cs)) parts.toList fun l => k (.big cs.size l)).map (ones A (parts.toList.map fun p => ev p.2))
    | _, _ => none
  | .nilCheck x => match ev x with
    | .addr d => some (k (.addr d))
    | .ptr o => some (A.exD fun d => A.okO o d (k (.addr d)))
    | .func (.func f) a b => some (k (.func (.func f) a b))
    | .iface t v => some (k (.iface t v))
    | .raw v => some (A.isIf v (k (.raw v)))
    | .func (.method m) [.raw v] [] => some (A.okM v m (k (.func (.method m) [.raw v] [])))
    | _ => none
  | .binOp op t x y _ => match binS A op (ev x) (ev y) k with
    | some r => some r
    | none => nilS A op (und P t) (isConstNil x) (isConstNil y) (ev x) (ev y) k
  | .unOp op _ x => match op, ev x with
    | .not, .bool b => some (k (.bool (.not b)))
    | .not, .blit b => some (k (.blit (!b)))
    | .neg, .int ka n => some (k (.int ka (A.wrap ka (A.sub (A.il 0) n))))
    | .neg, .ilit ka n => some (k (.ilit ka (ka.wrap (0 - n))))
    | .xor, .int ka n => some (k (.int ka (A.bits .xor ka (A.il (if ka.signed then -1 else ka.max)) n)))
    | _, _ => none
  | .convert src dst x => if (P.underlying src).isNone then none else match und P dst, ev x with
    | .int kd, .int _ n => some (k (.int kd (A.wrap kd n)))
    | .int kd, .ilit _ n => some (k (.ilit kd (kd.wrap n)))
    | .string, .str s => match und P src with
      | .string => some (k (.str s))
      | _ => none
    | _, _ => none
  | .makeInterface t x => match und P t with
    | .interface _ | .invalid => none
    | _ => some (k (.iface t (ev x)))
  | .makeFunc fn a b => some (k (.func fn (a.toList.map ev) (b.toList.map ev)))
  | .slice t x lo hi none => sliceS A P t (ev x) (lo.map ev) (hi.map ev) k
  | .fieldAddr s x f => match ev x, und P s with
    | .addr d, .struct fs => match fs[f]? with
      | some fd => if tsize P fd.type = 0 then none else if (P.underlying fd.type).isNone then none else some (k (.addr (if fd.offset = 0 then d else A.dadd d (A.nl fd.offset))))
      | none => none
    | _, _ => none
  | .field s x f => match und P s with
    | .struct fs => match fs[f]? with
      | some fd => if (P.underlying fd.type).isNone then none else partS A P fd.type (ev x) fd.offset k
      | none => none
    | _ => none
  | .indexAddr t x i => match und P t, ev x with
    | .slice e, .slice o len _ => match asI A (ev i) with
      | some (_, n) => if (P.info? e).isNone then none else some (A.exD fun d => A.okO o d (A.rng n len (k (.addr (A.dadd d (idx (tsize P e) (ev i) n))))))
      | none => none
    | .array m e, .addr d => if (P.info? e).isNone then none else match ev i with
      | .ilit _ n => if 0 ≤ n ∧ n < m then some (k (.addr (if n = 0 then d else A.dadd d (A.nl (n.toNat * tsize P e))))) else none
      | .int _ n => some (A.rng n (A.nl m) (k (.addr (A.dadd d (if tsize P e = 1 then A.i2n n else A.nmul (A.i2n n) (tsize P e))))))
      | _ => none
    | _, _ => none
  | .index t x i => match und P t, ev x, ev i with
    | .array m e, v, .ilit _ n => if (P.underlying e).isNone then none else if 0 ≤ n ∧ n < m then partS A P e v (n.toNat * tsize P e) k else none
    | .string, .str s, i => match asI A i with
      | some (_, n) => some (A.rng n (A.ssize s) (k (.int .u8 (A.sat s (A.i2n n)))))
      | none => none
    | _, _, _ => none
  | .extract x i => match ev x with
    | .tup vs => (vs[i]?).map k
    | _ => none
  | .sliceToArrayPointer t x => match und P t, ev x with
    | .array n _, .slice o len _ => some (A.nle (A.nl n) len (k (.ptr o)))
    | _, _ => none
  | .call c => match c.callee, c.args.toList, c.argTypes.toList with
    | .builtin .len, [x], [t] => match und P t, ev x with
      | .slice _, .slice _ l _ => some (k (.int .i64 (A.n2i l)))
      | .string, .str s => some (k (.int .i64 (A.n2i (A.ssize s))))
      | .array n _, _ => some (k (.ilit .i64 n))
      | _, _ => none
    | .builtin .cap, [x], [t] => match und P t, ev x with
      | .slice _, .slice _ _ c => some (k (.int .i64 (A.n2i c)))
      | _, _ => none
    | .builtin .max, [x, y], _ => match asI A (ev x), asI A (ev y) with
      | some (ka, a), some (kb, b) => if ka = kb then some (k (.int ka (A.imax a b))) else none
      | _, _ => none
    | .builtin .min, [x, y], _ => match asI A (ev x), asI A (ev y) with
      | some (ka, a), some (kb, b) => if ka = kb then some (k (.int ka (A.imin a b))) else none
      | _, _ => none
    | _, _, _ => none
  | _ => none
  where
  idx (sz : Nat) (i : SV C) (n : C.I) : C.N := match i with
    | .ilit _ c => A.nl (c.toNat * sz)
    | _ => if sz = 1 then A.i2n n else A.nmul (A.i2n n) sz

/-- May it be tried as one that leaves the world alone? -/
def quietOp (o : Oper) : Bool :=
  match o.op with
  | .move _ | .assign _ | .pick .. | .build .. | .load .. | .nilCheck _ | .binOp .. | .unOp .. | .makeInterface .. | .makeFunc .. | .slice .. | .fieldAddr .. | .field ..
  | .indexAddr .. | .index .. | .lookup .. | .extract .. | .sliceToArrayPointer .. | .typeAssert .. => true
  | .convert _ dst _ => match und P dst with
    | .slice _ => false
    | _ => true
  | .call c => match c.callee with
    | .builtin .len | .builtin .cap | .builtin .max | .builtin .min => true
    | _ => false
  | _ => false

def cellsAt (w : C.W) (d : C.D) : Nat → List (SV C) → C.R → C.R
  | _, [], r => r
  | i, v :: vs, r => A.cellEq w (if i = 0 then d else A.dadd d (A.nl i)) v (cellsAt w d (i + 1) vs r)

/-- A load of a type. -/
def loadS (t : TypeId) (d : C.D) (w : C.W) (k : SV C → C.R) : C.R :=
  if (P.underlying t).isNone then A.fail "load: type" else
  match shape1 P t with
  | .cell c => exCell A c fun sv => A.cellEq w d sv (k sv)
  | .agg cs => exCells A cs fun svs => cellsAt A w d 0 svs (k (.agg svs))
  | .big n => A.exL fun l => A.cellsEq w d n l (k (.big n l))
/-- .. again. -/
def reloadS (t : TypeId) (d : C.D) (w : C.W) (sv : SV C) (r : C.R) : C.R :=
  match shape1 P t, sv with
  | .cell _, sv => A.cellEq w d sv r
  | .agg _, .agg svs => cellsAt A w d 0 svs r
  | .big n, .big _ l => A.cellsEq w d n l r
  | _, _ => A.fail "load"
/-- What only reads. -/
def readOp (o : Oper) (ev : Operand → SV C) (w : C.W) (k : SV C → C.R) : C.R :=
  match o.op with
  | .load t x => match ev x with
    | .addr d => loadS A P t d w k
    | _ => A.fail "load: no address"
  | _ => A.read o ev w fun v => exShape A (shapeT P o.type) fun sv => A.valEq v sv (k sv)
/-- .. and reads the same in another world. -/
def rereadOp (o : Oper) (ev : Operand → SV C) (sv : SV C) (w : C.W) (r : C.R) : C.R :=
  match o.op with
  | .load t x => match ev x with
    | .addr d => reloadS A P t d w sv r
    | _ => A.fail "load: no address"
  | _ => A.reread o ev sv w r

def stAll (d : C.D) : Nat → List (SV C) → C.W → (C.W → C.R) → C.R
  | _, [], w, k => k w
  | i, v :: vs, w, k => A.st w (if i = 0 then d else A.dadd d (A.nl i)) v fun w => stAll d (i + 1) vs w k

def enters (f : FuncId) : Bool := match P.funcs[f]? with
  | some fn => fn.body.isSome && fn.name != "runtime.NumGoroutine"
  | none => false
def externs (f : FuncId) : Bool := match P.funcs[f]? with
  | some fn => fn.body.isNone
  | none => false

/-- What changes the world, or calls. -/
def evOp (o : Oper) (ev : Operand → SV C) (w : C.W) (k : SV C → C.W → C.R) : C.R :=
  let res (e : C.E) (w : C.W) : C.R := exShape A (shapeT P o.type) fun sv => A.endEq e sv (k sv w)
  let ran : C.R := A.run o ev w fun v w => exShape A (shapeT P o.type) fun sv => A.valEq v sv (k sv w)
  match o.op with
  | .alloc t => match zeroOf P t with
    | some (.agg cs) => if cs.size ≤ mostSmall then A.new t (cs.toList.map (ofCell A)) w fun d w => k (.addr d) w else A.newL t cs.size (A.lconst (.agg cs)) w fun d w => k (.addr d) w
    | some z => A.new t [ofCell A z] w fun d w => k (.addr d) w
    | none => A.fail "alloc: no zero"
  | .box t x => match ev x with
    | .big n l => A.newL t n l w fun d w => k (.addr d) w
    | v => match cellsOfS v with
      | some cs => ones A [v] (A.new t cs w fun d w => k (.addr d) w)
      | none => A.fail "box: no cells"
  | .buildSlice t n parts => match und P t with
    | .slice e => match zeroOf P e with
      | some z =>
        if (zeroSVs A z).length = tsize P e ∧ n * tsize P e ≤ 256 ∧ (1 < n ∨ tsize P e ≤ mostSmall) then
          match buildSmall (fun i => some (i * tsize P e, tsize P e)) ev ((List.replicate n (zeroSVs A z)).flatten) parts.toList with
          | some cells => ones A (parts.toList.map fun p => ev p.2) (A.new e cells w fun d w => k (.slice (A.osome d) (A.nl n) (A.nl n)) w)
          | none => A.fail "buildSlice: parts"
        else if n = 1 ∧ (zeroSVs A z).length = tsize P e ∧ tsize P e ≤ 4096 then
          match buildBig A (fun i => some (i * tsize P e, tsize P e)) ev (tsize P e) (A.lconst z) parts.toList fun l => A.newL e (tsize P e) l w fun d w => k (.slice (A.osome d) (A.nl n) (A.nl n)) w with
          | some r => ones A (parts.toList.map fun p => ev p.2) r
          | none => A.fail "buildSlice: parts"
        else A.fail "buildSlice: size"
      | none => A.fail "buildSlice: zero"
    | _ => A.fail "buildSlice: type"
  | .store t x y => match ev x with
    | .addr d => match cellsOfS (ev y) with
      | some cs => if cs.length = tsize P t ∧ (P.info? t).isSome then stAll A d 0 cs w fun w => k (.tup []) w else A.fail "store: size"
      | none => A.runU o ev w fun w => k (.tup []) w
    | _ => A.fail "store: no address"
  | .mapUpdate .. | .insert .. | .entryStore .. => A.runU o ev w fun w => k (.tup []) w
  | .call c =>
    let args := c.args.toList.map ev
    match c.callee with
    | .builtin _ => ran
    | .value f => match ev f with
      | .func (.func f) first cap =>
        if enters P f then A.call f (first ++ args ++ cap) w res
        else if externs P f then A.ext f (first ++ args ++ cap) w fun v w => exShape A (shapeT P o.type) fun sv => A.valEq v sv (k sv w)
        else A.fail "call: what function?"
      | .func (.method m) [.raw v] [] => A.callM v m args w res
      | .raw v => A.callV v args w res
      | _ => A.fail "call: no function"
    | .invoke x m => match ev x with
      | .raw v => A.callM v m args w res
      | _ => A.fail "invoke: no interface value"
  | .range .. | .next .. | .entry .. => A.run o ev w fun v w => k (.raw v) w
  | .makeMap .. | .makeSlice .. | .convert .. | .mapEntry .. => ran
  | _ => A.fail "no such operation"

/-- Any operation, its guard apart. -/
def doOp (o : Oper) (env : Env C) (w : C.W) (k : SV C → C.W → C.R) : C.R :=
  match pureOp A P o (ev A env) fun sv => k sv w with
  | some r => r
  | none => if quietOp P o then readOp A P o (ev A env) w fun sv => k sv w else evOp A P o (ev A env) w k

def putS (env : Env C) (dst : Option Tmp) (v : SV C) : Env C := match dst with
  | some d => (d, v) :: env
  | none => env

/-- An operation's guard: decided; or both ways. -/
def guardS (ops : Array Oper) (o : Oper) (env : Env C) (yes no : Env C → C.R) : C.R :=
  match o.guard with
  | none => yes env
  | some (j, want) => match (ops[j]?).bind (·.dst) with
    | none => no env
    | some t => match getS env t with
      | .blit b => if b == want then yes env else no env
      | .bool b => A.and (A.imp b true (if want then yes ((t, .blit true) :: env) else no ((t, .blit true) :: env)))
          (A.imp b false (if want then no ((t, .blit false) :: env) else yes ((t, .blit false) :: env)))
      | .tup [] => no env
      | _ => A.fail "guard"

/-- A region in the text's order. -/
def regionS (ops : Array Oper) : List Oper → Env C → C.W → (Env C → C.W → C.R) → C.R
  | [], env, w, k => k env w
  | o :: rest, env, w, k => guardS A ops o env
      (fun env => doOp A P o env w fun sv w => regionS ops rest (putS env o.dst sv) w k)
      (fun env => regionS ops rest (putS env o.dst (.tup [])) w k)

/-- One that was taken ahead: it still yields the same. -/
structure Pend (C : Car) where
  i : Nat
  again : C.W → C.R → C.R

def againAll (ops : Array Oper) (j : Nat) (w : C.W) : List (Pend C) → C.R → C.R
  | [], r => r
  | p :: ps, r => if (descs ops p.i).getD j false then againAll ops j w ps r else p.again w (againAll ops j w ps r)

def andAll : List C.R → C.R
  | [] => A.fail "nobody may come up"
  | [r] => r
  | r :: rs => A.and r (andAll rs)

/-- Which one is taken first: one that leaves the world alone. -/
def firstQuiet (ops : Array Oper) : List Nat → Option Nat
  | [] => none
  | i :: r => match ops[i]? with
    | some o => if quietOp P o && free ops i then some i else firstQuiet ops r
    | none => firstQuiet ops r

/-- A region whose order is open. -/
def regionG (ops : Array Oper) : Nat → Array Bool → List (Pend C) → Env C → C.W → (Env C → C.W → C.R) → C.R
  | 0, _, _, _, _, _ => A.fail "region: fuel"
  | n + 1, listed, pend, env, w, k =>
    match Region.ready .any ops listed with
    | [] => k env w
    | rs =>
      match firstQuiet P ops rs with
      | some i => match ops[i]? with
        | none => A.fail "region"
        | some o => guardS A ops o env
          (fun env => match pureOp A P o (ev A env) fun sv => regionG ops n (listed.setIfInBounds i true) pend (putS env o.dst sv) w k with
            | some r => r
            | none => readOp A P o (ev A env) w fun sv =>
                regionG ops n (listed.setIfInBounds i true) (⟨i, rereadOp A P o (ev A env) sv⟩ :: pend) (putS env o.dst sv) w k)
          (fun env => regionG ops n (listed.setIfInBounds i true) pend (putS env o.dst (.tup [])) w k)
      | none => andAll A (rs.map fun j => match ops[j]? with
        | none => A.fail "region"
        | some o => guardS A ops o env
          (fun env => doOp A P o env w fun sv w => againAll ops j w pend (regionG ops n (listed.setIfInBounds j true) (pend.filter fun p => !(descs ops p.i).getD j false) (putS env o.dst sv) w k))
          (fun env => againAll ops j w pend (regionG ops n (listed.setIfInBounds j true) (pend.filter fun p => !(descs ops p.i).getD j false) (putS env o.dst (.tup [])) w k)))

/-- What stands behind a piece of code. -/
structure Kont (C : Car) where
  nrm : Env C → C.W → C.R
  exit : Nat → Env C → C.W → C.R
  ret : Env C → C.W → C.R

def writesOf : Code → List Tmp
  | .region _ ops _ => ops.toList.filterMap (·.dst)
  | .seq a b => writesOf a ++ writesOf b
  | .cond _ a b => writesOf a ++ writesOf b
  | .block _ c => writesOf c
  | .loop c => writesOf c
  | _ => []
def firstRegion : Code → Nat
  | .region id _ _ => id
  | .seq a _ => firstRegion a
  | .cond _ a _ => firstRegion a
  | .block _ c => firstRegion c
  | .loop c => firstRegion c
  | _ => 0

/-- The frame at a loop's head: what the body writes is junk, but for the slots that are carried. -/
def headEnv (jk : C.J) (live : List Tmp) (svs : List (SV C)) (written : List Tmp) (env : Env C) : Env C :=
  live.zip svs ++ (written.map fun t => (t, SV.raw (A.junk jk t))) ++ env

def slotsOk (n : Nat) : Code → Bool
  | .region _ ops _ => ops.all fun o => match o.dst with
    | some d => decide (d < n)
    | none => true
  | .seq a b => slotsOk n a && slotsOk n b
  | .cond _ a b => slotsOk n a && slotsOk n b
  | .block _ c => slotsOk n c
  | .loop c => slotsOk n c
  | _ => true
def setC (env : Env C) (c : Operand) (b : Bool) : Env C := match c with
  | .tmp s => (s, .blit b) :: env
  | _ => env
/-- Where several ways meet ahead of a piece of code: the annotation's key. -/
def joinKey (b : Code) : Nat := 1000000 + firstRegion b
/-- Code. 'ann': of each loop, by its first region: the slots that it carries, and their forms. -/
def exec (ann : List (Nat × List (Tmp × Shape1))) (ops : Code) (env : Env C) (w : C.W) (K : Kont C) : C.R :=
  match ops with
  | .skip => K.nrm env w
  | .region _ ops draw =>
    if draw then
      if ssa ops then A.drew w fun w => regionG A P ops (ops.size + 1) (Array.replicate ops.size false) [] env w K.nrm else A.fail "region: temporaries"
    else regionS A P ops ops.toList env w K.nrm
  | .seq a b => match ann.find? (·.1 == joinKey b) with
    | none => exec ann a env w { K with nrm := fun env w => exec ann b env w K }
    | some (_, live) =>
      let slots := live.map (·.1)
      A.join (live.map (·.2)) (fun enter => exec ann a env w { K with nrm := fun env w => enter (slots.map (getS env)) w })
        fun svs jk w => exec ann b (headEnv A jk slots svs (writesOf a) env) w K
  | .cond c a b => match ev A env c with
    | .blit t => if t then exec ann a env w K else exec ann b env w K
    | .bool t =>
      A.and (A.imp t true (exec ann a (setC env c true) w K)) (A.imp t false (exec ann b (setC env c false) w K))
    | _ => A.fail "cond"
  | .block id c => exec ann c env w { K with exit := fun i env w => if i = id then K.nrm env w else K.exit i env w }
  | .loop c => match ann.find? (·.1 == firstRegion c) with
    | none => A.fail "loop: nothing is said of it"
    | some (_, live) =>
      let slots := live.map (·.1)
      A.loop (live.map (·.2)) (slots.map (getS env)) w fun svs jk w again =>
        exec ann c (headEnv A jk slots svs (writesOf c) env) w { K with nrm := fun env w => again (slots.map (getS env)) w }
  | .exit id => K.exit id env w
  | .ret => K.ret env w
  | _ => A.fail "code"

/-- What a function hands back. -/
def resultS (r : ResultVar) (env : Env C) (w : C.W) (k : SV C → C.R) : C.R :=
  match r with
  | .tmp t => k (getS env t)
  | .cell a t => match getS env a with
    | .addr d => loadS A P t d w k
    | _ => A.fail "result"
def resultsS : List ResultVar → Env C → C.W → (List (SV C) → C.R) → C.R
  | [], _, _, k => k []
  | r :: rs, env, w, k => resultS A P r env w fun v => resultsS rs env w fun vs => k (v :: vs)
def retS (fn : Func) (env : Env C) (w : C.W) : C.R :=
  resultsS A P fn.results.toList env w fun vs => match vs with
    | [v] => A.done v w
    | vs => A.done (.tup vs) w

def numbered : Nat → List (SV C) → Env C
  | _, [] => []
  | i, v :: vs => (i, v) :: numbered (i + 1) vs

/-- A function, called with these. -/
def execF (ann : List (Nat × List (Tmp × Shape1))) (fn : Func) (args : List (SV C)) (w : C.W) : C.R :=
  match fn.body with
  | none => A.fail "no body"
  | some c => if args.length ≤ fn.ntmps ∧ slotsOk fn.ntmps c = true then
      exec A P ann c (numbered 0 args) w { nrm := retS A P fn, exit := fun _ _ _ => A.fail "exit", ret := retS A P fn }
    else A.fail "arguments"
end
end Go.Vcg
