/- The executor over propositions is sound: what it asks is enough for the code's own weakest precondition. -/
import Derived.Test.YtkekehngillblaaXVcg
import Derived.WalkKit
namespace Go.Vcg

def bitsI (op : BinOp) (k : IntKind) (a b : Int) : Int :=
  let x := BitVec.ofInt k.bits a
  let y := BitVec.ofInt k.bits b
  k.wrap (match op with
    | .and => (x &&& y).toNat
    | .or => (x ||| y).toNat
    | .xor => (x ^^^ y).toNat
    | _ => (x &&& ~~~y).toNat)
def shlI (k : IntKind) (a b : Int) : Int := k.wrap (a * 2 ^ min b.toNat k.bits)
def shrI (k : IntKind) (a b : Int) : Int := a.fdiv (2 ^ min b.toNat k.bits)
def strB (op : BinOp) (x y : ByteArray) : Bool :=
  let eq := x.toList == y.toList
  let lt := Op.bytesLess x.toList y.toList
  match op with
  | .eql => eq
  | .neq => !eq
  | .lss => lt
  | .leq => lt || eq
  | .gtr => !(lt || eq)
  | _ => !lt
def strAt (s : ByteArray) (i : Nat) : Int := ((s[i]?).map fun b => (b.toNat : Int)).getD 0
def subO (o : Option Addr) (cap lo sz : Nat) : Option Addr := if cap = lo then o else o.map (·.add (lo * sz))
def subD (d : Addr) (n lo sz : Nat) : Addr := if n = lo then d else d.add (lo * sz)
def lget (l : Array Value) (i : Nat) : Value := l.getD i undef
def setsAt : Array Value → Nat → List Value → Array Value
  | l, _, [] => l
  | l, i, v :: vs => setsAt (l.setIfInBounds i v) (i + 1) vs
def lputL (l : Array Value) (i n : Nat) (l' : Array Value) : Array Value := setsAt l i (l'.toList.take n)
def RowAt (w : World) (d : Addr) (n : Nat) (l : Array Value) : Prop := l.size = n ∧ ∀ i, i < n → w.cell? (d.add i) = l[i]?
def CanSet (w : World) (d : Addr) (v : Value) : Prop := v.oneCell' = true ∧ (∃ u, w.cell? d = some u) ∧ w.frozen? d = false
def IsSet (w : World) (d : Addr) (v : Value) (w' : World) : Prop := w' = w.setCell d v
def IsNew (w : World) (t : TypeId) (cs : Array Value) (d : Addr) (w' : World) : Prop := d = ⟨w.heap.size, 0, none⟩ ∧ w' = w.alloc (.cells cs t)
def IsDrew (w w' : World) : Prop := w' = w.drew
def IsIface (v : Value) : Prop := ∃ t x, v = .iface t x
/-- The method's receiver is there. -/
def OkM (P : Program) (v : Value) (name : String) : Prop := ∃ t x, v = .iface t x ∧ ∀ w, (nilAhead (P.types.size + Made.depth) t x name).run P w = .ok (some false) w
def CallsV (P : Program) (v : Value) (args : Array Value) (w : World) (R : Ending → World → Prop) : Prop :=
  ∃ f first cap, v = .func (.func f) first cap ∧ enters P f = true ∧ Calls P f (first ++ args ++ cap) w R
def CallsM (P : Program) (v : Value) (name : String) (args : Array Value) (w : World) (R : Ending → World → Prop) : Prop :=
  ∃ t x f recv, v = .iface t x ∧ (method (P.types.size + Made.depth) t x name).run P w = .ok (f, recv) w ∧ enters P f = true ∧ Calls P f (#[recv] ++ args) w R
def semBin (op : BinOp) (t : TypeId) (x y : Operand) (a b : Value) : Sem Value := do eqGuard op t x y a b; binOp op t a b
def builtinV (b : Builtin) (ts : Array TypeId) (t : TypeId) (args : Array Value) : Sem Value :=
  match b with
  | .append => Builtin.append_ ts t args
  | .cap => Builtin.cap_ ts t args
  | .clear => Builtin.clear_ ts t args
  | .copy => Builtin.copy_ ts t args
  | .delete => Builtin.delete_ ts t args
  | .len => Builtin.len_ ts t args
  | .max => Builtin.max_ ts t args
  | .min => Builtin.min_ ts t args
  | _ => stuck "builtinV"

abbrev pC : Car := { I := Int, B := Bool, S := ByteArray, O := Option Addr, D := Addr, N := Nat, V := Value, L := Array Value, M := Option Nat, W := World, E := Ending, J := Nat → Value, R := Prop }

def den : BX pC → Bool
  | .var b => b
  | .icmp op a b => match op with
    | .eql => decide ((a : Int) = b)
    | .neq => !decide ((a : Int) = b)
    | .lss => decide ((a : Int) < b)
    | .leq => decide ((a : Int) ≤ b)
    | .gtr => decide ((a : Int) > b)
    | _ => decide ((a : Int) ≥ b)
  | .scmp op a b => strB op a b
  | .isNil o => Option.isNone o
  | .isNilM o => Option.isNone o
  | .not a => !den a

def impP : BX pC → Bool → Prop → Prop
  | .var b, t, r => (b : Bool) = t → r
  | .icmp op a b, t, r =>
    match op, t with
    | .eql, true => (a : Int) = b → r
    | .eql, false => (a : Int) ≠ b → r
    | .neq, true => (a : Int) ≠ b → r
    | .neq, false => (a : Int) = b → r
    | .lss, true => (a : Int) < b → r
    | .lss, false => ¬ (a : Int) < b → r
    | .leq, true => (a : Int) ≤ b → r
    | .leq, false => ¬ (a : Int) ≤ b → r
    | .gtr, true => (a : Int) > b → r
    | .gtr, false => ¬ (a : Int) > b → r
    | _, true => (a : Int) ≥ b → r
    | _, false => ¬ (a : Int) ≥ b → r
  | .scmp op a b, t, r => strB op a b = t → r
  | .isNil o, true, r => (o : Option Addr) = none → r
  | .isNil o, false, r => (o : Option Addr) ≠ none → r
  | .isNilM o, true, r => (o : Option Nat) = none → r
  | .isNilM o, false, r => (o : Option Nat) ≠ none → r
  | .not a, t, r => impP a (!t) r

theorem impP_spec : ∀ (b : BX pC) (t : Bool) (r : Prop), impP b t r → den b = t → r
  | .var _, _, _, h, e => h e
  | .icmp op a b, t, r, h, e => by
    cases op <;> cases t <;> simp only [impP, den] at h e <;> first
      | exact h (by simpa using e)
  | .scmp _ _ _, _, _, h, e => h e
  | .isNil o, t, r, h, e => by
    cases t <;> simp only [impP, den] at h e
    · exact h (by cases o <;> simp_all)
    · exact h (by cases o <;> simp_all)
  | .isNilM o, t, r, h, e => by
    cases t <;> simp only [impP, den] at h e
    · exact h (by cases o <;> simp_all)
    · exact h (by cases o <;> simp_all)
  | .not a, t, r, h, e => impP_spec a (!t) r h (by simp only [den] at e; cases t <;> simp_all)

mutual
def toV : SV pC → Value
  | .bool b => .bool (den b)
  | .blit b => .bool b
  | .int k n => .int k n
  | .ilit k n => .int k n
  | .str s => .string s
  | .ptr o => .pointer o
  | .addr d => .pointer (some d)
  | .slice o l c => .slice o l c
  | .map m => .map m
  | .func fn a b => .func fn (toVs a).toArray (toVs b).toArray
  | .iface t v => .iface t (toV v)
  | .nilIface => .nilIface
  | .nilFunc => .nilFunc
  | .agg cs => .agg (toVs cs).toArray
  | .big _ l => .agg l
  | .tup vs => .tuple (toVs vs).toArray
  | .raw v => v
def toVs : List (SV pC) → List Value
  | [] => []
  | v :: vs => toV v :: toVs vs
end
theorem toVs_eq (l : List (SV pC)) : toVs l = l.map toV := by induction l <;> simp_all [toVs]

/-- The types of what a loop carries. -/
def InvC (c : Cell) (T : Type) : Type := match c with
  | .int _ => Int → T
  | .bool => Bool → T
  | .str => ByteArray → T
  | .ptr => Option Addr → T
  | .slice => Option Addr → Nat → Nat → T
  | .map => Option Nat → T
  | .raw => Value → T
def InvCs : List Cell → Type → Type
  | [], T => T
  | c :: cs, T => InvC c (InvCs cs T)
def Inv1 (s : Shape1) (T : Type) : Type := match s with
  | .cell c => InvC c T
  | .agg cs => InvCs cs T
  | .big _ => Array Value → T
def InvT : List Shape1 → Type → Type
  | [], T => World → T
  | s :: ss, T => Inv1 s (InvT ss T)

/-- Applied to what stands in the slots. -/
def appC {T : Type} : (c : Cell) → InvC c T → SV pC → Option T
  | .int k, I, .int k' n => if k = k' then some (I n) else none
  | .int k, I, .ilit k' n => if k = k' then some (I n) else none
  | .bool, I, .bool b => some (I (den b))
  | .bool, I, .blit b => some (I b)
  | .str, I, .str s => some (I s)
  | .ptr, I, .ptr o => some (I o)
  | .ptr, I, .addr d => some (I (some d))
  | .slice, I, .slice o l c => some (I o l c)
  | .map, I, .map m => some (I m)
  | .raw, I, v => some (I (toV v))
  | _, _, _ => none
def appCs {T : Type} : (cs : List Cell) → InvCs cs T → List (SV pC) → Option T
  | [], I, [] => some I
  | c :: cs, I, v :: vs => (appC c I v).bind fun I => appCs cs I vs
  | _, _, _ => none
def app1 {T : Type} : (s : Shape1) → Inv1 s T → SV pC → Option T
  | .cell c, I, v => appC c I v
  | .agg cs, I, .agg vs => appCs cs I vs
  | .big n, I, .big m l => if n = m then some (I l) else none
  | _, _, _ => none
def appT {T : Type} : (ss : List Shape1) → InvT ss T → List (SV pC) → World → Option T
  | [], I, [], w => some (I w)
  | s :: ss, I, v :: vs, w => (app1 s I v).bind fun I => appT ss I vs w
  | _, _, _, _ => none

def allCP : Cell → (SV pC → Prop) → Prop
  | .int k, f => ∀ n : Int, f (.int k n)
  | .bool, f => ∀ b : Bool, f (.bool (.var b))
  | .str, f => ∀ s : ByteArray, f (.str s)
  | .ptr, f => ∀ o : Option Addr, f (.ptr o)
  | .slice, f => ∀ (o : Option Addr) (l c : Nat), f (.slice o l c)
  | .map, f => ∀ m : Option Nat, f (.map m)
  | .raw, f => ∀ v : Value, f (.raw v)
def allCsP : List Cell → (List (SV pC) → Prop) → Prop
  | [], f => f []
  | c :: cs, f => allCP c fun v => allCsP cs fun vs => f (v :: vs)
def all1P : Shape1 → (SV pC → Prop) → Prop
  | .cell c, f => allCP c f
  | .agg cs, f => allCsP cs fun vs => f (.agg vs)
  | .big n, f => ∀ l : Array Value, f (.big n l)
def allTP : List Shape1 → (List (SV pC) → Prop) → Prop
  | [], f => f []
  | s :: ss, f => all1P s fun v => allTP ss fun vs => f (v :: vs)

def theP : Option Prop → Prop
  | some p => p
  | none => False
def theN : Option Nat → Nat
  | some n => n
  | none => 0

def loopP (ss : List Shape1) (init : List (SV pC)) (w : World) (body : List (SV pC) → (Nat → Value) → World → (List (SV pC) → World → Prop) → Prop) : Prop :=
  ∃ (I : InvT ss Prop) (μ : InvT ss Nat), theP (appT ss I init w) ∧
    allTP ss fun svs => ∀ (jk : Nat → Value) (w' : World), theP (appT ss I svs w') →
      body svs jk w' fun svs' w'' => theP (appT ss I svs' w'') ∧ theN (appT ss μ svs' w'') < theN (appT ss μ svs w')

def joinP (ss : List Shape1) (pre : (List (SV pC) → World → Prop) → Prop) (rest : List (SV pC) → (Nat → Value) → World → Prop) : Prop :=
  ∃ I : InvT ss Prop, pre (fun svs w => theP (appT ss I svs w)) ∧
    allTP ss fun svs => ∀ (jk : Nat → Value) (w' : World), theP (appT ss I svs w') → rest svs jk w'
def semV (o : Oper) (ev : Operand → Value) : Option (Sem Value) :=
  match o.op with
  | .lookup t m k ok => some (Instr.lookup t (ev m) (ev k) ok)
  | .typeAssert x xt t ok => some (Instr.typeAssert (ev x) xt t ok)
  | .convert a b x => some (convert a b (ev x))
  | .binOp op t x y _ => some (semBin op t x y (ev x) (ev y))
  | .unOp op _ x => some (Op.unary op (ev x))
  | .field t x f => some (Instr.field t (ev x) f)
  | .index t x i => some (Instr.index t (ev x) (ev i))
  | .indexAddr t x i => some (Instr.indexAt t (ev x) (ev i))
  | .slice t x lo hi mx => some (Instr.sliceAt t (ev x) (lo.map ev) (hi.map ev) (mx.map ev))
  | .extract x i => some (Instr.extract (ev x) i)
  | .sliceToArrayPointer t x => some (Instr.arrayAt t (ev x))
  | .build t parts => some (Instr.build t (parts.map fun (i, x) => (i, ev x)))
  | .makeInterface t x => some (Instr.makeInterface t (ev x))
  | .fieldAddr t x f => some (Instr.fieldAt t (ev x) f)
  | .makeMap t r => some (Instr.makeMap t (r.map ev))
  | .makeSlice t l c => some (Instr.makeSlice t (ev l) (ev c))
  | .mapEntry t m k => some (Instr.mapEntry t (ev m) (ev k))
  | .range t x => some (Instr.range t (ev x))
  | .next it s => some (Instr.next (ev it) s o.type)
  | .entry it => some (Instr.entry (ev it))
  | .call c => match c.callee with
    | .builtin b => match b with
      | .append | .cap | .clear | .copy | .delete | .len | .max | .min => some (builtinV b c.argTypes o.type (c.args.map ev))
      | _ => none
    | _ => none
  | _ => none
def semU (o : Oper) (ev : Operand → Value) : Option (Sem Unit) :=
  match o.op with
  | .mapUpdate t m k x | .insert t m k x => some (Instr.mapUpdate t (ev m) (ev k) (ev x))
  | .entryStore t m s x => some (Instr.entryStore t (ev m) (ev s) (ev x))
  | .store t a x => some (Instr.storeAt t (ev a) (ev x))
  | _ => none

def pA (P : Program) (R : Ending → World → Prop) : Alg pC where
  il := fun n => (n : Int)
  nl := fun n => (n : Nat)
  sl := fun s => (s : ByteArray)
  onil := (none : Option Addr)
  osome := fun d => (some d : Option Addr)
  mnil := (none : Option Nat)
  dl := fun b o => (⟨b, o, none⟩ : Addr)
  wrap := fun k n => (IntKind.wrap k n : Int)
  add := fun a b => ((a : Int) + b : Int)
  sub := fun a b => ((a : Int) - b : Int)
  mul := fun a b => ((a : Int) * b : Int)
  tdiv := fun a b => (Int.tdiv a b : Int)
  tmod := fun a b => (Int.tmod a b : Int)
  fdiv := fun a b => (Int.fdiv a b : Int)
  bits := fun op k a b => (bitsI op k a b : Int)
  shl := fun k a b => (shlI k a b : Int)
  shr := fun k a b => (shrI k a b : Int)
  ssize := fun s => (ByteArray.size s : Nat)
  sext := fun s a b => (ByteArray.extract s a b : ByteArray)
  sat := fun s i => (strAt s i : Int)
  n2i := fun n => (((n : Nat) : Int) : Int)
  i2n := fun i => (Int.toNat i : Nat)
  nsub := fun a b => ((a : Nat) - b : Nat)
  nmul := fun a b => ((a : Nat) * b : Nat)
  dadd := fun d n => (Addr.add d n : Addr)
  osub := fun o cap lo sz => (subO o cap lo sz : Option Addr)
  dsub := fun d n lo sz => (subD d n lo sz : Addr)
  lext := fun l a n => (Array.extract l a (a + n) : Array Value)
  lget := fun l i => (lget l i : Value)
  lconst := fun v => ((match v with | .agg cs => cs | v => #[v]) : Array Value)
  vlit := fun v => (v : Value)
  lput := fun l i vs => (setsAt l i (toVs vs) : Array Value)
  lputL := fun l i n l' => (lputL l i n l' : Array Value)
  junk := fun j t => ((j : Nat → Value) t : Value)
  lsz := fun l n r => Array.size l = n ∧ r
  one := fun v r => Value.oneCell' v = true ∧ r
  fail := fun _ => False
  and := fun a b => a ∧ b
  imp := fun b t r => impP b t r
  exI := fun f => ∃ n : Int, f n
  exB := fun f => ∃ b : Bool, f b
  exS := fun f => ∃ s : ByteArray, f s
  exO := fun f => ∃ o : Option Addr, f o
  exD := fun f => ∃ d : Addr, f d
  exN := fun f => ∃ n : Nat, f n
  exV := fun f => ∃ v : Value, f v
  exL := fun f => ∃ l : Array Value, f l
  exM := fun f => ∃ m : Option Nat, f m
  allI := fun f => ∀ n : Int, f n
  allB := fun f => ∀ b : Bool, f b
  allS := fun f => ∀ s : ByteArray, f s
  allO := fun f => ∀ o : Option Addr, f o
  allN := fun f => ∀ n : Nat, f n
  allV := fun f => ∀ v : Value, f v
  allL := fun f => ∀ l : Array Value, f l
  allM := fun f => ∀ m : Option Nat, f m
  cellEq := fun w d v r => World.cell? w d = some (toV v) ∧ r
  cellsEq := fun w d n l r => RowAt w d n l ∧ r
  endEq := fun e v r => e = Ending.returned (toV v) ∧ r
  valEq := fun v sv r => v = toV sv ∧ r
  okO := fun o d r => o = some d ∧ r
  rng := fun i n r => (0 ≤ (i : Int) ∧ (i : Int) < ((n : Nat) : Int)) ∧ r
  rle := fun i n r => (0 ≤ (i : Int) ∧ (i : Int) ≤ ((n : Nat) : Int)) ∧ r
  nle := fun a b r => (a : Nat) ≤ b ∧ r
  neZ := fun i r => (i : Int) ≠ 0 ∧ r
  geZ := fun i r => 0 ≤ (i : Int) ∧ r
  ifNil := fun v a b => (v = Value.nilIface ∧ a) ∨ (IsIface v ∧ b)
  isIf := fun v r => IsIface v ∧ r
  okM := fun v m r => OkM P v m ∧ r
  imax := fun a b => (max (a : Int) b : Int)
  imin := fun a b => (min (a : Int) b : Int)
  st := fun w d v k => CanSet w d (toV v) ∧ ∀ w' : World, IsSet w d (toV v) w' → k w'
  new := fun t cs w k => ∀ (d : Addr) (w' : World), IsNew w t (toVs cs).toArray d w' → k d w'
  newL := fun t _ l w k => ∀ (d : Addr) (w' : World), IsNew w t l d w' → k d w'
  drew := fun w k => ∀ w' : World, IsDrew w w' → k w'
  call := fun f args w k => Calls P f (toVs args).toArray w fun e w' => k e w'
  callV := fun v args w k => CallsV P v (toVs args).toArray w fun e w' => k e w'
  callM := fun v m args w k => CallsM P v m (toVs args).toArray w fun e w' => k e w'
  ext := fun f args w k => ∃ (v : Value) (w' : World), (callFunc f (toVs args).toArray).run P w = .ok (.value v) w' ∧ k v w'
  read := fun o ev w k => match semV o fun x => toV (ev x) with
    | some s => ∃ v : Value, s.run P w = .ok v w ∧ k v
    | none => False
  reread := fun o ev sv w r => match semV o fun x => toV (ev x) with
    | some s => s.run P w = .ok (toV sv) w ∧ r
    | none => False
  run := fun o ev w k => match semV o fun x => toV (ev x) with
    | some s => ∃ (v : Value) (w' : World), s.run P w = .ok v w' ∧ k v w'
    | none => False
  runU := fun o ev w k => match semU o fun x => toV (ev x) with
    | some s => ∃ w' : World, s.run P w = .ok () w' ∧ k w'
    | none => False
  done := fun v w => R (.returned (toV v)) w
  join := joinP
  loop := loopP
end Go.Vcg
