/- The disk as plain Lean: states and calls. -/
import Derived.Test.YtkekehngillblaaXMap
namespace Go.Disk
open Go.Vcg

abbrev Nm := ByteArray
/-- A change of a file's bytes that is pending. -/
inductive Pt where
  | wr (at_ : Nat) (b : List UInt8)
  | cut (n : Nat)
structure Fl where
  bytes : List UInt8
  sure : List UInt8
  pend : List Pt
/-- A change of names that is pending. -/
inductive Chg where
  | made (n : Nm) (f : Nat)
  | ren (a b : Nm)
  | rem (n : Nm)
structure Dk where
  cap : Int
  names : List (Nm × Nat)
  sure : List (Nm × Nat)
  pend : List Chg
  files : Nat
  count : Nat
  fail : Int
  halt : Int
  down : Bool
  fs : Nat → Fl

def okChar (c : UInt8) : Bool := (97 ≤ c && c ≤ 122) || (48 ≤ c && c ≤ 57) || c == 46 || c == 45 || c == 95
def right (s : Nm) : Bool := decide (1 ≤ s.size) && decide (s.size ≤ 64) && s.data.toList.all okChar
def NmGood (s : Nm) : Prop := s.size ≤ maxLen

def without {V : Type} (k : Nm) (l : List (Nm × V)) : List (Nm × V) := l.filter fun x => decide (x.1 ≠ k)
def put {V : Type} (k : Nm) (v : V) (l : List (Nm × V)) : List (Nm × V) := without k l ++ [(k, v)]
def Chg.on (l : List (Nm × Nat)) : Chg → List (Nm × Nat)
  | .made n f => put n f l
  | .ren a b => match assoc a l with
    | some f => put b f (without a l)
    | none => l
  | .rem n => without n l
def lay (b : List UInt8) (at_ : Nat) (c : List UInt8) : List UInt8 := b.take at_ ++ c ++ b.drop (at_ + c.length)

def fresh : Fl := ⟨[], [], []⟩
def new (cap : Int) : Dk := ⟨cap, [], [], [], 0, 0, 0, -1, false, fun _ => fresh⟩
def used (d : Dk) : Nat := (d.names.map fun x => (d.fs x.2).bytes.length).sum
def setF (d : Dk) (n : Nat) (f : Fl) : Dk := { d with fs := fun k => if k = n then f else d.fs k }

/-- What a changing call does first, and its first errors. -/
def begins (d : Dk) : Dk × Int :=
  if d.halt = 0 then ({ d with count := d.count + 1, fail := max (d.fail - 1) 0, down := true }, 17)
  else if d.down then ({ d with count := d.count + 1, fail := max (d.fail - 1) 0 }, 17)
  else ({ d with count := d.count + 1, fail := max (d.fail - 1) 0, halt := max (d.halt - 1) (-1) }, if d.fail = 1 then 16 else 0)
/-- The file of a name, or an error. -/
def named (d : Dk) (s : Nm) : Nat × Int :=
  if right s then match assoc s d.names with
    | some f => (f, 0)
    | none => (0, 13)
  else (0, 11)
def does (d : Dk) (c : Chg) : Dk := { d with names := c.on d.names, pend := d.pend ++ [c] }

/-- A call that changes a file. -/
def onFile (d : Dk) (s : Nm) (k : Dk → Nat → Dk × Int) : Dk × Int :=
  let d1 := begins d
  if d1.2 = 0 then
    let f := named d1.1 s
    if f.2 = 0 then k d1.1 f.1 else (d1.1, f.2)
  else d1
def create (d : Dk) (s : Nm) : Dk × Int :=
  let d1 := begins d
  if d1.2 = 0 then
    let f := named d1.1 s
    if f.2 = 0 then (d1.1, 12)
    else if f.2 = 13 then
      if d1.1.files = 1048576 then (d1.1, 15)
      else ({ does (setF d1.1 d1.1.files fresh) (.made s d1.1.files) with files := d1.1.files + 1 }, 0)
    else (d1.1, f.2)
  else d1
def write (d : Dk) (f : Nat) (at_ : Nat) (b : List UInt8) : Dk × Int :=
  let longer : Int := at_ + b.length - (d.fs f).bytes.length
  if longer > 0 ∧ longer > d.cap - used d then (d, 15)
  else if b = [] then (d, 0)
  else (setF d f { d.fs f with bytes := lay (d.fs f).bytes at_ b, pend := (d.fs f).pend ++ [.wr at_ b] }, 0)
def append (d : Dk) (s : Nm) (b : List UInt8) : Dk × Int := onFile d s fun d f => write d f (d.fs f).bytes.length b
def writeAt (d : Dk) (s : Nm) (at_ : Int) (b : List UInt8) : Dk × Int :=
  onFile d s fun d f => if at_ < 0 ∨ at_ > (d.fs f).bytes.length then (d, 14) else write d f at_.toNat b
def truncate (d : Dk) (s : Nm) (n : Int) : Dk × Int :=
  onFile d s fun d f => if n < 0 ∨ n > (d.fs f).bytes.length then (d, 14)
    else if n < (d.fs f).bytes.length then (setF d f { d.fs f with bytes := (d.fs f).bytes.take n.toNat, pend := (d.fs f).pend ++ [.cut n.toNat] }, 0)
    else (d, 0)
def sync (d : Dk) (s : Nm) : Dk × Int :=
  onFile d s fun d f => (setF d f { d.fs f with sure := (d.fs f).bytes, pend := [] }, 0)
def rename (d : Dk) (a b : Nm) : Dk × Int :=
  let d1 := begins d
  if d1.2 = 0 then
    if right a && right b then
      match assoc a d1.1.names with
      | some _ => (if a = b then d1.1 else does d1.1 (.ren a b), 0)
      | none => (d1.1, 13)
    else (d1.1, 11)
  else d1
def remove (d : Dk) (s : Nm) : Dk × Int := onFile d s fun d _ => (does d (.rem s), 0)
def syncDir (d : Dk) : Dk × Int :=
  let d1 := begins d
  if d1.2 = 0 then ({ d1.1 with sure := d1.1.names, pend := [] }, 0) else d1
def failAt (d : Dk) (n : Int) : Dk := { d with fail := max n 0 }
def haltAt (d : Dk) (n : Int) : Dk := { d with halt := max n (-1) }
/-- The file that a reading call asks for. -/
def asked (d : Dk) (s : Nm) : Nat × Int := if d.down then (0, 17) else named d s
def read (d : Dk) (s : Nm) : List UInt8 × Int := if (asked d s).2 = 0 then ((d.fs (asked d s).1).bytes, 0) else ([], (asked d s).2)
def readAt (d : Dk) (s : Nm) (at_ n : Int) : List UInt8 × Int :=
  if (read d s).2 = 0 then
    if at_ < 0 ∨ n < 0 ∨ at_ > (read d s).1.length ∨ n > (read d s).1.length - at_ then ([], 14)
    else (((read d s).1.drop at_.toNat).take n.toNat, 0)
  else ([], (read d s).2)

/-- What survives of pending changes, with so many bytes to spend. -/
def survive (b : List UInt8) : List Pt → Int → List UInt8
  | [], _ => b
  | .wr at_ c :: r, left => if (c.length : Int) > left then lay b at_ (c.take left.toNat) else survive (lay b at_ c) r (left - c.length)
  | .cut n :: r, left => if left < 1 then b else survive (b.take n) r (left - 1)
def left (c : List Int) (n : Nat) : Int := if n < c.length then max (c.getD n 0) 0 else 0
def restart (d : Dk) (names : Int) (c : List Int) : Dk :=
  let l := (d.pend.take (min (max names 0) d.pend.length).toNat).foldl Chg.on d.sure
  { d with
    names := l, sure := l, pend := [], fail := 0, halt := -1, down := false
    fs := fun n => if n ∈ l.map Prod.snd then ⟨survive (d.fs n).sure (d.fs n).pend (left c n), survive (d.fs n).sure (d.fs n).pend (left c n), []⟩ else d.fs n }

/-! What holds of every disk. -/
def most : Nat := 67108864
/-- Patches lead from some bytes to others. -/
def PtsOk : List UInt8 → List Pt → List UInt8 → Prop
  | b, [], b' => b = b'
  | b, .wr at_ c :: r, b' => at_ ≤ b.length ∧ (lay b at_ c).length ≤ most ∧ PtsOk (lay b at_ c) r b'
  | b, .cut n :: r, b' => n ≤ b.length ∧ PtsOk (b.take n) r b'
structure NamesOk (files : Nat) (l : List (Nm × Nat)) : Prop where
  keys : (l.map Prod.fst).Nodup
  vals : (l.map Prod.snd).Nodup
  rights : ∀ x ∈ l, right x.1 = true
  files : ∀ x ∈ l, x.2 < files
def ChgOk (files : Nat) (l : List (Nm × Nat)) : Chg → Prop
  | .made n f => right n = true ∧ f < files ∧ f ∉ l.map Prod.snd ∧ n ∉ l.map Prod.fst
  | .ren a b => right a = true ∧ right b = true ∧ a ≠ b ∧ a ∈ l.map Prod.fst
  | .rem n => right n = true
def ChgsOk (files : Nat) : List (Nm × Nat) → List Chg → List (Nm × Nat) → Prop
  | l, [], l' => l = l'
  | l, c :: r, l' => ChgOk files l c ∧ ChgsOk files (c.on l) r l'
structure Ok (d : Dk) : Prop where
  cap : 0 ≤ d.cap ∧ d.cap ≤ most
  files : d.files ≤ 1048576
  names : NamesOk d.files d.names
  sure : NamesOk d.files d.sure
  chgs : ChgsOk d.files d.sure d.pend d.names
  pts : ∀ n, n < d.files → PtsOk (d.fs n).sure (d.fs n).pend (d.fs n).bytes
  size : ∀ n, n < d.files → (d.fs n).sure.length ≤ most ∧ (d.fs n).bytes.length ≤ most
  fail : 0 ≤ d.fail ∧ d.fail < 9223372036854775808
  halt : -1 ≤ d.halt ∧ d.halt < 9223372036854775808
  pend : d.pend.length ≤ d.count
  pends : ∀ n, n < d.files → (d.fs n).pend.length ≤ d.count
end Go.Disk
