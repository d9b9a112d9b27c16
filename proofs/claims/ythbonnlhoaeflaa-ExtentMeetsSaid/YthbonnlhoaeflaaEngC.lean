/-
  The engine, part C: the operations, told without types; what each comes to on an abstract state.
-/
import Derived.Test.YthbonnlhoaeflaaEngB
set_option linter.unusedVariables false
set_option linter.unusedSimpArgs false
namespace Go.Eng
open Go.RowKit

inductive LA where
  | t (i : Nat)
  | c (v : Value)
  | f (f : Nat)

/-- A number's parts, and a whole number as a float. -/
inductive FU where
  | re
  | im
  | toF (k : FloatKind)
inductive LOp where
  | mv (x : LA)
  | pick (c a b : LA)
  | alloc (zero : List Value)
  | box (n : Nat) (x : LA)
  | build (zero : List Value) (parts : List (Nat × Nat × LA))
  | bslice (sz len : Nat) (zero : List Value) (parts : List (Nat × LA))
  | load (n : Nat) (agg : Bool) (a : LA)
  | store (n : Nat) (a x : LA)
  | nilck (x : LA)
  | bin (op : BinOp) (x y : LA)
  | eqb (neg : Bool) (x y : LA)
  | eqp (neg : Bool) (x y : LA)
  | eqn (neg : Bool) (x : LA)
  | eqs (neg : Bool) (ks : List Nat) (x y : LA)
  | un (op : UnOp) (x : LA)
  | toInt (k : IntKind) (x : LA)
  | toBytes (x : LA)
  | mark (x : LA)
  | toStr (x : LA)
  | mksl (sz bytes : Nat) (zero : List Value) (len cap : LA)
  | slc (sz : Nat) (x : LA) (lo hi : Option LA)
  | slcs (x : LA) (lo hi : Option LA)
  | fad (off : Nat) (x : LA)
  | fld (off n : Nat) (agg : Bool) (x : LA)
  | iad (sz : Nat) (x i : LA)
  | ixs (x i : LA)
  | ext (i : Nat) (x : LA)
  | call (f : Nat) (args : List LA)
  | callv (x : LA) (args : List LA)
  | mkf (f : Nat) (args : List LA)
  | fu (o : FU) (x : LA)
  | fcx (x y : LA)
  | slc0 (sz : Nat) (x : LA)
  | len (x : LA)
  | lenS (x : LA)
  | app (sz bytes : Nat) (zero : List Value) (x y : LA)
  | appStr (zero : List Value) (x y : LA)
  | copy (sz : Nat) (x y : LA)
  | mm (isMax : Bool) (x y : LA)
instance : Inhabited LOp := ⟨.mv (.c undef)⟩

/-- What an operation does: the value, and the owned rows that are then others. -/
structure U where
  val : S
  wr : List (Nat × Ob)

/-- An operand, with the owned rows that it names. -/
abbrev A := S × List (Option Ob)

def cellRefs : S → List Nat
  | .view id _ _ _ => [id]
  | .ptr id _ _ _ => [id]
  | _ => []
def S.refs : S → List Nat
  | .view id _ _ _ => [id]
  | .ptr id _ _ _ => [id]
  | .agg cs => cs.flatMap cellRefs
  | .clo _ cs => cs.flatMap cellRefs
  | _ => []

def att (h : Nat → Option Ob) (s : S) : A := (s, s.refs.map h)

def evalA (s : Nat → S) : LA → S
  | .t i => s i
  | .c v => .d (.v v)
  | .f f => .d (.v (.func (.func f) #[] #[]))

def vI (k : IntKind) (n : Int) : S := .d (.v (.int k n))
def vB (b : Bool) : S := .d (.v (.bool b))
def vS (s : ByteArray) : S := .d (.v (.string s))

def binW (op : BinOp) (x y : Value) (K : Value → Prop) : Prop :=
  match op, x, y with
  | .add, .int k a, .int k' b => k = k' ∧ K (.int k (k.wrap (a + b)))
  | .sub, .int k a, .int k' b => k = k' ∧ K (.int k (k.wrap (a - b)))
  | .mul, .int k a, .int k' b => k = k' ∧ K (.int k (k.wrap (a * b)))
  | .quo, .int k a, .int k' b => k = k' ∧ b ≠ 0 ∧ K (.int k (k.wrap (a.tdiv b)))
  | .rem, .int k a, .int k' b => k = k' ∧ b ≠ 0 ∧ K (.int k (a.tmod b))
  | .and, .int k a, .int k' b => k = k' ∧ K (.int k (k.wrap (BitVec.ofInt k.bits a &&& BitVec.ofInt k.bits b).toNat))
  | .or, .int k a, .int k' b => k = k' ∧ K (.int k (k.wrap (BitVec.ofInt k.bits a ||| BitVec.ofInt k.bits b).toNat))
  | .xor, .int k a, .int k' b => k = k' ∧ K (.int k (k.wrap (BitVec.ofInt k.bits a ^^^ BitVec.ofInt k.bits b).toNat))
  | .andNot, .int k a, .int k' b => k = k' ∧ K (.int k (k.wrap (BitVec.ofInt k.bits a &&& ~~~ BitVec.ofInt k.bits b).toNat))
  | .shl, .int k a, .int _ b => 0 ≤ b ∧ K (.int k (k.wrap (a * 2 ^ (min b.toNat k.bits))))
  | .shr, .int k a, .int _ b => 0 ≤ b ∧ K (.int k (a.fdiv (2 ^ (min b.toNat k.bits))))
  | .eql, .int k a, .int k' b => k = k' ∧ K (.bool (a == b))
  | .neq, .int k a, .int k' b => k = k' ∧ K (.bool (a != b))
  | .lss, .int k a, .int k' b => k = k' ∧ K (.bool (decide (a < b)))
  | .leq, .int k a, .int k' b => k = k' ∧ K (.bool (decide (a ≤ b)))
  | .gtr, .int k a, .int k' b => k = k' ∧ K (.bool (decide (a > b)))
  | .geq, .int k a, .int k' b => k = k' ∧ K (.bool (decide (a ≥ b)))
  | .eql, .float k a, .float k' b => k = k' ∧ K (.bool (k.format.order a b == some .eq))
  | .neq, .float k a, .float k' b => k = k' ∧ K (.bool (k.format.order a b != some .eq))
  | .lss, .float k a, .float k' b => k = k' ∧ K (.bool (k.format.order a b == some .lt))
  | .leq, .float k a, .float k' b => k = k' ∧ K (.bool (k.format.order a b == some .lt || k.format.order a b == some .eq))
  | .gtr, .float k a, .float k' b => k = k' ∧ K (.bool (k.format.order a b == some .gt))
  | .geq, .float k a, .float k' b => k = k' ∧ K (.bool (k.format.order a b == some .gt || k.format.order a b == some .eq))
  | .eql, .complex k a b, .complex k' c d => k = k' ∧ K (.bool (k.format.order a c == some .eq && k.format.order b d == some .eq))
  | .neq, .complex k a b, .complex k' c d => k = k' ∧ K (.bool !(k.format.order a c == some .eq && k.format.order b d == some .eq))
  | .add, .string a, .string b => ((a.size + b.size : Nat) : Int) ≤ 9223372036854775807 ∧ K (.string (a ++ b))
  | .eql, .string a, .string b => K (.bool (a.toList == b.toList))
  | .neq, .string a, .string b => K (.bool !(a.toList == b.toList))
  | .lss, .string a, .string b => K (.bool (Op.bytesLess a.toList b.toList))
  | .leq, .string a, .string b => K (.bool (Op.bytesLess a.toList b.toList || a.toList == b.toList))
  | .gtr, .string a, .string b => K (.bool !(Op.bytesLess a.toList b.toList || a.toList == b.toList))
  | .geq, .string a, .string b => K (.bool !(Op.bytesLess a.toList b.toList))
  | _, _, _ => False

def unW (op : UnOp) (x : Value) (K : Value → Prop) : Prop :=
  match op, x with
  | .neg, .int k n => K (.int k (k.wrap (0 - n)))
  | .xor, .int k n => K (.int k (k.wrap (BitVec.ofInt k.bits (if k.signed then -1 else k.max) ^^^ BitVec.ofInt k.bits n).toNat))
  | .not, .bool b => K (.bool !b)
  | _, _ => False

/-- A value's cells as pure data, and the rows that are given up for it. -/
def pureCell : S → List (Option Ob) → Option (D × List (Nat × Ob) × List (Option Ob))
  | .d x, o => some (x, [], o)
  | .view id g off len, some ⟨g', .arr sz rows⟩ :: o => if g = g' ∧ off + len ≤ rows.length then some (.sl sz ((rows.drop off).take len), [(id, ⟨g', .dead⟩)], o) else none
  | _, _ => none
def pureCells : List S → List (Option Ob) → Option (List D × List (Nat × Ob))
  | [], _ => some ([], [])
  | c :: cs, o => match pureCell c o with
    | some (x, w, o') => match pureCells cs o' with
      | some (xs, ws) => some (x :: xs, w ++ ws)
      | none => none
    | none => none
/-- Surely the value of one cell. -/
def S.one : S → Bool
  | .d (.v x) => x.oneCell'
  | .d (.sl _ _) => true
  | .d (.sn _ _) => true
  | .pat _ => true
  | .view _ _ _ _ => true
  | .ptr _ _ _ _ => true
  | _ => false
def S.cellsOf : S → List S
  | .agg cs => cs
  | s => [s]

def setAt {α : Type} (l : List α) (k : Nat) (xs : List α) : List α := l.take k ++ xs ++ l.drop (k + xs.length)

def isAggD : TypeDesc → Bool
  | .struct _ | .array _ _ => true
  | _ => false

def takeW (n : Nat) (agg : Bool) (cs : List S) (K : U → Prop) : Prop :=
  match agg, cs with
  | true, cs => n ≤ cs.length ∧ K ⟨.agg (cs.take n), []⟩
  | false, c :: _ => K ⟨c, []⟩
  | false, [] => False

def loadW (n : Nat) (agg : Bool) (x : A) (K : U → Prop) : Prop :=
  match x with
  | (.pat cs, _) => takeW n agg (cs.map .d) K
  | (.ptr _ g 0 cell, [some ⟨g', .box cells⟩]) => g = g' ∧ takeW n agg (cells.drop cell) K
  | (.ptr _ g row cell, [some ⟨g', .arr _ rows⟩]) => g = g' ∧ row < rows.length ∧ ∀ r, rows[row]? = some r → takeW n agg ((r.drop cell).map .d) K
  | _ => False

def storeW (n : Nat) (x y : A) (K : U → Prop) : Prop :=
  match x with
  | (.ptr id g 0 cell, [some ⟨g', .box cells⟩]) => g = g' ∧ y.1.cellsOf.length = n ∧ y.1.cellsOf.all S.one = true ∧ cell + n ≤ cells.length ∧ K ⟨.any, [(id, ⟨g', .box (setAt cells cell y.1.cellsOf)⟩)]⟩
  | (.ptr id g row cell, [some ⟨g', .arr sz rows⟩]) => g = g' ∧ row < rows.length ∧ y.1.cellsOf.all S.one = true ∧ match pureCells y.1.cellsOf y.2 with
      | some (xs, []) => xs.length = n ∧ cell + n ≤ sz ∧ ∀ r, rows[row]? = some r → K ⟨.any, [(id, ⟨g', .arr sz (rows.set row (setAt r cell xs))⟩)]⟩
      | _ => False
  | _ => False

def iadW (sz : Nat) (x i : A) (K : U → Prop) : Prop :=
  match x, i with
  | (.d (.sl sz' rows), _), (.d (.v (.int _ n)), _) => sz' = sz ∧ 0 ≤ n ∧ n < rows.length ∧ ∀ r, rows[n.toNat]? = some r → K ⟨.pat r, []⟩
  | (.view id g off len, [some ⟨g', .arr sz' _⟩]), (.d (.v (.int _ n)), _) => g = g' ∧ sz' = sz ∧ 0 ≤ n ∧ n < len ∧ K ⟨.ptr id g (off + n.toNat) 0, []⟩
  | _, _ => False

def ixsW (x i : A) (K : U → Prop) : Prop :=
  match x, i with
  | (.d (.v (.string s)), _), (.d (.v (.int _ n)), _) => 0 ≤ n ∧ n < s.size ∧ ∀ c, s[n.toNat]? = some c → K ⟨vI .u8 c.toNat, []⟩
  | _, _ => False

def fadW (off : Nat) (x : A) (K : U → Prop) : Prop :=
  match x with
  | (.pat cs, _) => K ⟨.pat (cs.drop off), []⟩
  | (.ptr id g row cell, [some ob]) => g = ob.gen ∧ K ⟨.ptr id g row (cell + off), []⟩
  | _ => False

def fldW (off n : Nat) (agg : Bool) (x : A) (K : U → Prop) : Prop :=
  match x, agg with
  | (.agg cs, _), true => off + n ≤ cs.length ∧ K ⟨.agg ((cs.drop off).take n), []⟩
  | (.agg cs, _), false => match cs.drop off with
    | c :: _ => K ⟨c, []⟩
    | [] => False
  | _, _ => False

def extW (i : Nat) (x : A) (K : U → Prop) : Prop :=
  match x with
  | (.tup ss, _) => match ss.drop i with
    | c :: _ => K ⟨c, []⟩
    | [] => False
  | _ => False

def boundsW (n : Nat) (lo hi : Option A) (K : Nat → Nat → Prop) : Prop :=
  match lo, hi with
  | none, none => K 0 n
  | some (.d (.v (.int _ l)), _), none => 0 ≤ l ∧ l ≤ n ∧ K l.toNat n
  | none, some (.d (.v (.int _ u)), _) => 0 ≤ u ∧ u ≤ n ∧ K 0 u.toNat
  | some (.d (.v (.int _ l)), _), some (.d (.v (.int _ u)), _) => 0 ≤ l ∧ l ≤ u ∧ u ≤ n ∧ K l.toNat u.toNat
  | _, _ => False

def slcW (sz : Nat) (x : A) (lo hi : Option A) (K : U → Prop) : Prop :=
  match x with
  | (.d (.sl sz' rows), _) => sz' = sz ∧ boundsW rows.length lo hi fun l u => K ⟨.d (.sl sz ((rows.drop l).take (u - l))), []⟩
  | (.d (.v (.slice none 0 0)), _) => boundsW 0 lo hi fun _ _ => K ⟨.d (.v (.slice none 0 0)), []⟩
  | (.view id g off len, [some ⟨g', .arr sz' _⟩]) => g = g' ∧ sz' = sz ∧ boundsW len lo hi fun l u => K ⟨.view id g (off + l) (u - l), []⟩
  | _ => False

def slcsW (x : A) (lo hi : Option A) (K : U → Prop) : Prop :=
  match x with
  | (.d (.v (.string s)), _) => boundsW s.size lo hi fun l u => K ⟨vS (s.extract l u), []⟩
  | _ => False

def lenW (x : A) (K : U → Prop) : Prop :=
  match x with
  | (.d (.sl _ rows), _) => K ⟨vI .i64 rows.length, []⟩
  | (.d (.v (.slice none 0 0)), _) => K ⟨vI .i64 0, []⟩
  | (.view _ g _ len, [some ob]) => g = ob.gen ∧ K ⟨vI .i64 len, []⟩
  | _ => False

def lenSW (x : S) (K : U → Prop) : Prop :=
  match x with
  | .d (.v (.string s)) => K ⟨vI .i64 s.size, []⟩
  | _ => False

/-- What a slice holds. -/
def rowsOf : A → Option (List (List D))
  | (.d (.sl _ rows), _) => some rows
  | (.d (.sn _ rows), _) => some rows
  | (.d (.v (.slice none 0 0)), _) => some []
  | (.view _ g off len, [some ⟨g', .arr _ rows⟩]) => if g = g' ∧ off + len ≤ rows.length then some ((rows.drop off).take len) else none
  | _ => none

/-- How wide its elements are, if it tells. -/
def fits (sz : Nat) : A → Prop
  | (.d (.sn sz' _), _) => sz' = sz
  | (.d (.sl sz' _), _) => sz' = sz
  | (.view _ _ _ _, [some ⟨_, .arr sz' _⟩]) => sz' = sz
  | _ => True

def appW (d g sz bytes : Nat) (x : A) (new : Option (List (List D))) (K : U → Prop) : Prop :=
  match new with
  | none => False
  | some ys => match x with
    | (.d (.v (.slice none 0 0)), _) => ys.length * bytes ≤ 140737488355328 ∧ ys.length ≤ 9223372036854775807 ∧ K ⟨.view d g 0 ys.length, [(d, ⟨g, .arr sz ys⟩)]⟩
    | (.view id g0 off len, [some ⟨g', .arr sz' rows⟩]) => g0 = g' ∧ sz' = sz ∧ off + len ≤ rows.length ∧ (len + ys.length) * bytes ≤ 140737488355328 ∧ len + ys.length ≤ 9223372036854775807 ∧
        K ⟨.view id (g' + 1) 0 (len + ys.length), [(id, ⟨g' + 1, .arr sz ((rows.drop off).take len ++ ys)⟩)]⟩
    | _ => False

def bytesD (s : ByteArray) : List (List D) := s.toList.map fun c => [.v (.int .u8 c.toNat)]

def zerosD (zero : List Value) (n : Nat) : List (List D) := List.replicate n (zero.map .v)

/-- Bytes as a text. -/
def byteOfRow : List D → UInt8
  | [.v (.int _ n)] => UInt8.ofNat n.toNat
  | _ => 0
def strD (rows : List (List D)) : ByteArray := ⟨(rows.map byteOfRow).toArray⟩
def IsByte (r : List D) : Prop := ∃ n, r = [.v (.int .u8 n)]

def bsRows (ev : LA → A) (sz : Nat) : List (Nat × LA) → List (List D) → Option (List (List D) × List (Nat × Ob))
  | [], rows => some (rows, [])
  | (i, x) :: ps, rows => match pureCells (ev x).1.cellsOf (ev x).2 with
    | some (xs, w) => if xs.length = sz ∧ (ev x).1.cellsOf.all S.one = true then (match bsRows ev sz ps (rows.set i xs) with
      | some (rs, ws) => some (rs, w ++ ws)
      | none => none) else none
    | none => none

def buildCells (ev : LA → A) : List (Nat × Nat × LA) → List S → Option (List S)
  | [], cs => some cs
  | (o, n, x) :: ps, cs => if (ev x).1.cellsOf.length = n ∧ (ev x).1.cellsOf.all S.one = true ∧ o + n ≤ cs.length then buildCells ev ps (setAt cs o (ev x).1.cellsOf) else none

def nextGen : Option Ob → Nat
  | none => 0
  | some ob => ob.gen + 1

def pickW (c a b : S) (K : U → Prop) : Prop :=
  match c with
  | .d (.v (.bool t)) => (t = true → K ⟨a, []⟩) ∧ (t = false → K ⟨b, []⟩)
  | _ => False

def binOpW (op : BinOp) (x y : S) (K : U → Prop) : Prop :=
  match x, y with
  | .d (.v a), .d (.v b) => binW op a b fun v => K ⟨.d (.v v), []⟩
  | _, _ => False

def unOpW (op : UnOp) (x : S) (K : U → Prop) : Prop :=
  match x with
  | .d (.v a) => unW op a fun v => K ⟨.d (.v v), []⟩
  | _ => False

def eqbW (neg : Bool) (x y : S) (K : U → Prop) : Prop :=
  match x, y with
  | .d (.v (.bool a)), .d (.v (.bool b)) => K ⟨vB (if neg then !(a == b) else a == b), []⟩
  | _, _ => False

/-- A pointer against nil. -/
def eqpW (neg : Bool) (x : A) (y : S) (K : U → Prop) : Prop :=
  match x, y with
  | (.d (.v (.pointer none)), _), .d (.v (.pointer none)) => K ⟨vB (!neg), []⟩
  | (.ptr _ g _ _, [some ob]), .d (.v (.pointer none)) => g = ob.gen ∧ K ⟨vB neg, []⟩
  | (.pat _, _), .d (.v (.pointer none)) => K ⟨vB neg, []⟩
  | _, _ => False

def eqnW (neg : Bool) (x : S) (K : U → Prop) : Prop :=
  match x with
  | .d (.v (.slice none 0 0)) => K ⟨vB (!neg), []⟩
  | .d (.sn _ _) => K ⟨vB neg, []⟩
  | _ => False

def eqCell : Nat → Value → Value → Option Bool
  | 0, .int k a, .int k' b => if k = k' then some (a == b) else none
  | 1, .string a, .string b => some (a.toList == b.toList)
  | 2, .bool a, .bool b => some (a == b)
  | _, _, _ => none
def eqCells : List Nat → List S → List S → Option Bool
  | [], [], [] => some true
  | k :: ks, .d (.v a) :: xs, .d (.v b) :: ys => match eqCell k a b, eqCells ks xs ys with
    | some p, some q => some (p && q)
    | _, _ => none
  | _, _, _ => none
def eqsW (neg : Bool) (ks : List Nat) (x y : S) (K : U → Prop) : Prop :=
  match x, y with
  | .agg xs, .agg ys => match eqCells ks xs ys with
    | some b => K ⟨vB (if neg then !b else b), []⟩
    | none => False
  | _, _ => False

def toIntW (k : IntKind) (x : S) (K : U → Prop) : Prop :=
  match x with
  | .d (.v (.int _ n)) => K ⟨vI k (k.wrap n), []⟩
  | .d (.v (.float s b)) => match (s.decode b).toInt .zero with
    | some n => k.min ≤ n ∧ n ≤ k.max ∧ K ⟨vI k n, []⟩
    | none => False
  | _ => False

def fuW (o : FU) (x : S) (K : U → Prop) : Prop :=
  match o, x with
  | .re, .d (.v (.complex k a _)) => K ⟨.d (.v (.float k a)), []⟩
  | .im, .d (.v (.complex k _ b)) => K ⟨.d (.v (.float k b)), []⟩
  | .toF k, .d (.v (.int _ n)) => K ⟨.d (.v (.float k (k.nearest n))), []⟩
  | _, _ => False

def fcxW (x y : S) (K : U → Prop) : Prop :=
  match x, y with
  | .d (.v (.float k a)), .d (.v (.float k' b)) => k = k' ∧ K ⟨.d (.v (.complex k a b)), []⟩
  | _, _ => False

def nilckW (x : A) (K : U → Prop) : Prop :=
  match x with
  | (.ptr id g r c, [some ob]) => g = ob.gen ∧ K ⟨.ptr id g r c, []⟩
  | (.pat cs, _) => K ⟨.pat cs, []⟩
  | _ => False

def toStrW (x : A) (K : U → Prop) : Prop :=
  match rowsOf x with
  | some rows => fits 1 x ∧ (∀ r ∈ rows, IsByte r) ∧ K ⟨vS (strD rows), []⟩
  | none => False

def mkslW (d g sz bytes : Nat) (zero : List Value) (n c : S) (K : U → Prop) : Prop :=
  match n, c with
  | .d (.v (.int _ l)), .d (.v (.int _ m)) => 0 ≤ l ∧ l ≤ m ∧ (bytes : Int) * m ≤ 140737488355328 ∧ m ≤ 9223372036854775807 ∧
      K ⟨.view d g 0 l.toNat, [(d, ⟨g, .arr sz (List.replicate l.toNat (zero.map .v))⟩)]⟩
  | _, _ => False

def copyW (sz : Nat) (x : A) (y : A) (K : U → Prop) : Prop :=
  match x, rowsOf y with
  | (.view id g off len, [some ⟨g', .arr sz' rows⟩]), some ys => g = g' ∧ sz' = sz ∧ fits sz y ∧ off + len ≤ rows.length ∧
      K ⟨vI .i64 (min len ys.length : Nat), [(id, ⟨g', .arr sz (setAt rows off (ys.take len))⟩)]⟩
  | (.d (.v (.slice none 0 0)), _), some _ => K ⟨vI .i64 0, []⟩
  | _, _ => False

/-- 'x[:0:0]': nothing, and without room. -/
def slc0W (d g sz : Nat) (x : A) (K : U → Prop) : Prop :=
  match x with
  | (.d (.sl _ _), _) => 0 < sz ∧ K ⟨.view d g 0 0, [(d, ⟨g, .arr sz []⟩)]⟩
  | (.d (.v (.slice none 0 0)), _) => 0 < sz ∧ K ⟨.view d g 0 0, [(d, ⟨g, .arr sz []⟩)]⟩
  | (.view _ g0 off len, [some ⟨g', .arr _ rows⟩]) => g0 = g' ∧ off + len ≤ rows.length ∧ 0 < sz ∧ K ⟨.view d g 0 0, [(d, ⟨g, .arr sz []⟩)]⟩
  | _ => False

def markW (x : A) (K : U → Prop) : Prop :=
  match x with
  | (.view id g off len, [some ⟨g', .arr sz rows⟩]) => g = g' ∧ off + len ≤ rows.length ∧ 0 < len ∧ K ⟨.view id g off len, [(id, ⟨g', .arr sz rows⟩)]⟩
  | _ => False

def mmW (isMax : Bool) (x y : S) (K : U → Prop) : Prop :=
  match x, y with
  | .d (.v (.int k a)), .d (.v (.int k' b)) => k = k' ∧ K ⟨vI k (if isMax then max a b else min a b), []⟩
  | _, _ => False

/-- What an operation comes to; 'd' is the slot that it writes (and the name of what it makes), 'g' the age that a new row of that name has. -/
def opW (d g : Nat) (ev : LA → A) (K : U → Prop) : LOp → Prop
  | .mv x => K ⟨(ev x).1, []⟩
  | .pick c a b => pickW (ev c).1 (ev a).1 (ev b).1 K
  | .alloc zero => K ⟨.ptr d g 0 0, [(d, ⟨g, .box (zero.map fun v => .d (.v v))⟩)]⟩
  | .box n x => (ev x).1.cellsOf.length = n ∧ (ev x).1.cellsOf.all S.one = true ∧ K ⟨.ptr d g 0 0, [(d, ⟨g, .box (ev x).1.cellsOf⟩)]⟩
  | .build zero parts => match buildCells ev parts (zero.map fun v => .d (.v v)) with
    | some cs => K ⟨.agg cs, []⟩
    | none => False
  | .bslice sz len zero parts => match bsRows ev sz parts (List.replicate len (zero.map .v)) with
    | some (rows, ws) => (ws.map (·.1)).Nodup ∧ d ∉ ws.map (·.1) ∧ K ⟨.view d g 0 len, ws ++ [(d, ⟨g, .arr sz rows⟩)]⟩
    | none => False
  | .load n agg a => loadW n agg (ev a) K
  | .store n a x => storeW n (ev a) (ev x) K
  | .nilck x => nilckW (ev x) K
  | .bin op x y => binOpW op (ev x).1 (ev y).1 K
  | .eqb neg x y => eqbW neg (ev x).1 (ev y).1 K
  | .eqp neg x y => eqpW neg (ev x) (ev y).1 K
  | .eqn neg x => eqnW neg (ev x).1 K
  | .eqs neg ks x y => eqsW neg ks (ev x).1 (ev y).1 K
  | .un op x => unOpW op (ev x).1 K
  | .toInt k x => toIntW k (ev x).1 K
  | .toBytes x => match (ev x).1 with
    | .d (.v (.string s)) => s.size ≤ 140737488355328 ∧ K ⟨.view d g 0 s.size, [(d, ⟨g, .arr 1 (bytesD s)⟩)]⟩
    | _ => False
  | .mark x => markW (ev x) K
  | .toStr x => toStrW (ev x) K
  | .mksl sz bytes zero n c => mkslW d g sz bytes zero (ev n).1 (ev c).1 K
  | .slc sz x lo hi => slcW sz (ev x) (lo.map ev) (hi.map ev) K
  | .slcs x lo hi => slcsW (ev x) (lo.map ev) (hi.map ev) K
  | .fad off x => fadW off (ev x) K
  | .fld off n agg x => fldW off n agg (ev x) K
  | .iad sz x i => iadW sz (ev x) (ev i) K
  | .ixs x i => ixsW (ev x) (ev i) K
  | .ext i x => extW i (ev x) K
  | .call _ _ => False
  | .callv _ _ => False
  | .fu o x => fuW o (ev x).1 K
  | .fcx x y => fcxW (ev x).1 (ev y).1 K
  | .mkf f xs => K ⟨.clo f (xs.map fun x => (ev x).1), []⟩
  | .slc0 sz x => slc0W d g sz (ev x) K
  | .len x => lenW (ev x) K
  | .lenS x => lenSW (ev x).1 K
  | .app sz bytes _ x y => fits sz (ev y) ∧ appW d g sz bytes (ev x) (rowsOf (ev y)) K
  | .appStr _ x y => match (ev y).1 with
    | .d (.v (.string s)) => appW d g 1 1 (ev x) (some (bytesD s)) K
    | _ => False
  | .copy sz x y => copyW sz (ev x) (ev y) K
  | .mm isMax x y => mmW isMax (ev x).1 (ev y).1 K

theorem boundsW_lin {n : Nat} {lo hi : Option A} {K : Nat → Nat → Prop} (h : boundsW n lo hi K) : ∃ l u, l ≤ u ∧ u ≤ n ∧ boundsW n lo hi (fun l' u' => l' = l ∧ u' = u) ∧ K l u := by
  unfold boundsW at *
  split at h
  · exact ⟨0, n, by omega, by omega, ⟨rfl, rfl⟩, h⟩
  · exact ⟨_, n, by omega, by omega, ⟨h.1, h.2.1, rfl, rfl⟩, h.2.2⟩
  · exact ⟨0, _, by omega, by omega, ⟨h.1, h.2.1, rfl, rfl⟩, h.2.2⟩
  · exact ⟨_, _, by omega, by omega, ⟨h.1, h.2.1, h.2.2.1, rfl, rfl⟩, h.2.2.2⟩
  · exact h.elim

theorem boundsW_mono {n : Nat} {lo hi : Option A} {K K' : Nat → Nat → Prop} (hk : ∀ l u, K l u → K' l u) (h : boundsW n lo hi K) : boundsW n lo hi K' := by
  unfold boundsW at *
  split at h <;> simp_all

theorem binW_lin {op : BinOp} {x y : Value} {K : Value → Prop} (h : binW op x y K) : ∃ v, binW op x y (· = v) ∧ K v := by
  unfold binW at *
  split at h <;> first | exact h.elim | exact ⟨_, rfl, h⟩ | exact ⟨_, ⟨h.1, rfl⟩, h.2⟩ | exact ⟨_, ⟨h.1, h.2.1, rfl⟩, h.2.2⟩

theorem unW_lin {op : UnOp} {x : Value} {K : Value → Prop} (h : unW op x K) : ∃ v, unW op x (· = v) ∧ K v := by
  unfold unW at *
  split at h <;> first | exact h.elim | exact ⟨_, rfl, h⟩

set_option maxHeartbeats 1000000 in
theorem opW_lin {d g : Nat} {ev : LA → A} {K : U → Prop} {L : LOp} (h : opW d g ev K L) : ∃ u, opW d g ev (· = u) L ∧ K u := by
  cases L
  case mv x => exact ⟨_, rfl, h⟩
  case pick c a b =>
    simp only [opW, pickW] at *
    split at h
    · rename_i t _
      cases t
      · exact ⟨_, ⟨by simp, fun _ => rfl⟩, h.2 rfl⟩
      · exact ⟨_, ⟨fun _ => rfl, by simp⟩, h.1 rfl⟩
    · exact h.elim
  case alloc z => exact ⟨_, rfl, h⟩
  case box n x => exact ⟨_, ⟨h.1, h.2.1, rfl⟩, h.2.2⟩
  case build z ps =>
    simp only [opW] at *
    split at h
    · exact ⟨_, rfl, h⟩
    · exact h.elim
  case bslice sz len z ps =>
    simp only [opW] at *
    split at h
    · exact ⟨_, ⟨h.1, h.2.1, rfl⟩, h.2.2⟩
    · exact h.elim
  case load n agg x =>
    have tk : ∀ {cs}, takeW n agg cs K → ∃ u, takeW n agg cs (· = u) ∧ K u := by
      intro cs hh
      unfold takeW at *
      split at hh
      · exact ⟨_, ⟨hh.1, rfl⟩, hh.2⟩
      · exact ⟨_, rfl, hh⟩
      · exact hh.elim
    simp only [opW, loadW] at *
    split at h
    · exact tk h
    · obtain ⟨u, h1, h2⟩ := tk h.2
      exact ⟨u, ⟨h.1, h1⟩, h2⟩
    · rename_i row _ _ _ rows _
      obtain ⟨h1, h2, h3⟩ := h
      have h4 := h3 rows[row] (by simp [h2])
      obtain ⟨u, h5, h6⟩ := tk h4
      refine ⟨u, ⟨h1, h2, fun r hr => ?_⟩, h6⟩
      have e : r = rows[row] := by simpa [h2] using hr.symm
      rw [e]; exact h5
    · exact h.elim
  case store n a x =>
    simp only [opW, storeW] at *
    split at h
    · exact ⟨_, ⟨h.1, h.2.1, h.2.2.1, h.2.2.2.1, rfl⟩, h.2.2.2.2⟩
    · rename_i row _ _ _ rows _
      obtain ⟨h1, h2, h2', h3⟩ := h
      split at h3
      · rename_i xs hxs
        obtain ⟨h5, h6, h7⟩ := h3
        refine ⟨_, ⟨h1, h2, h2', h5, h6, fun r hr => ?_⟩, h7 rows[row] (by simp [h2])⟩
        have e : r = rows[row] := by simpa [h2] using hr.symm
        rw [e]
      · exact h3.elim
    · exact h.elim
  case nilck x =>
    simp only [opW, nilckW] at *
    split at h <;> first | exact ⟨_, rfl, h⟩ | exact ⟨_, ⟨h.1, rfl⟩, h.2⟩ | exact h.elim
  case bin op x y =>
    simp only [opW, binOpW] at *
    split at h
    · obtain ⟨v, h1, h2⟩ := binW_lin h
      refine ⟨_, ?_, h2⟩
      have hm : ∀ {K K' : Value → Prop}, (∀ v, K v → K' v) → ∀ {a b}, binW op a b K → binW op a b K' := by
        intro K K' hk a b hh
        obtain ⟨v, g1, g2⟩ := binW_lin hh
        unfold binW at *
        split at g1 <;> simp_all
      exact hm (fun v hv => by rw [hv]) h1
    · exact h.elim
  case eqb neg x y =>
    simp only [opW, eqbW] at *
    split at h <;> first | exact ⟨_, rfl, h⟩ | exact h.elim
  case eqp neg x y =>
    simp only [opW, eqpW] at *
    split at h <;> first | exact ⟨_, rfl, h⟩ | exact ⟨_, ⟨h.1, rfl⟩, h.2⟩ | exact h.elim
  case eqs neg ks x y =>
    simp only [opW, eqsW] at *
    split at h
    · split at h
      · exact ⟨_, rfl, h⟩
      · exact h.elim
    · exact h.elim
  case un op x =>
    simp only [opW, unOpW, unW] at *
    split at h
    · split at h <;> first | exact ⟨_, rfl, h⟩ | exact h.elim
    · exact h.elim
  case toInt k x =>
    simp only [opW, toIntW] at *
    split at h
    · exact ⟨_, rfl, h⟩
    · split at h
      · exact ⟨_, ⟨h.1, h.2.1, rfl⟩, h.2.2⟩
      · exact h.elim
    · exact h.elim
  case toBytes x =>
    simp only [opW] at *
    split at h <;> first | exact ⟨_, ⟨h.1, rfl⟩, h.2⟩ | exact h.elim
  case eqn neg x =>
    simp only [opW, eqnW] at *
    split at h <;> first | exact ⟨_, rfl, h⟩ | exact h.elim
  case slc0 sz x =>
    simp only [opW, slc0W] at *
    split at h <;> first | exact ⟨_, ⟨h.1, rfl⟩, h.2⟩ | exact ⟨_, ⟨h.1, h.2.1, h.2.2.1, rfl⟩, h.2.2.2⟩ | exact h.elim
  case mark x =>
    simp only [opW, markW] at *
    split at h <;> first | exact ⟨_, ⟨h.1, h.2.1, h.2.2.1, rfl⟩, h.2.2.2⟩ | exact h.elim
  case toStr x =>
    simp only [opW, toStrW] at *
    split at h <;> first | exact ⟨_, ⟨h.1, h.2.1, rfl⟩, h.2.2⟩ | exact h.elim
  case mksl sz bytes z n c =>
    simp only [opW, mkslW] at *
    split at h <;> first | exact ⟨_, ⟨h.1, h.2.1, h.2.2.1, h.2.2.2.1, rfl⟩, h.2.2.2.2⟩ | exact h.elim
  case slc sz x lo hi =>
    simp only [opW, slcW] at *
    split at h
    · obtain ⟨l, u, _, _, h1, h2⟩ := boundsW_lin h.2
      exact ⟨_, ⟨h.1, boundsW_mono (fun l' u' e => by rw [e.1, e.2]) h1⟩, h2⟩
    · obtain ⟨l, u, _, _, h1, h2⟩ := boundsW_lin h
      exact ⟨_, boundsW_mono (fun l' u' e => rfl) h1, h2⟩
    · obtain ⟨l, u, _, _, h1, h2⟩ := boundsW_lin h.2.2
      exact ⟨_, ⟨h.1, h.2.1, boundsW_mono (fun l' u' e => by rw [e.1, e.2]) h1⟩, h2⟩
    · exact h.elim
  case slcs x lo hi =>
    simp only [opW, slcsW] at *
    split at h
    · obtain ⟨l, u, _, _, h1, h2⟩ := boundsW_lin h
      exact ⟨_, boundsW_mono (fun l' u' e => by rw [e.1, e.2]) h1, h2⟩
    · exact h.elim
  case fad off x =>
    simp only [opW, fadW] at *
    split at h <;> first | exact ⟨_, rfl, h⟩ | exact ⟨_, ⟨h.1, rfl⟩, h.2⟩ | exact h.elim
  case fld off n agg x =>
    simp only [opW, fldW] at *
    split at h
    · exact ⟨_, ⟨h.1, rfl⟩, h.2⟩
    · split at h <;> first | exact ⟨_, rfl, h⟩ | exact h.elim
    · exact h.elim
  case iad sz x i =>
    simp only [opW, iadW] at *
    split at h
    · rename_i rows _ _ n _ _ _
      obtain ⟨h1, h2, h3, h4⟩ := h
      have hlt : n.toNat < rows.length := by omega
      refine ⟨_, ⟨h1, h2, h3, fun r hr => ?_⟩, h4 rows[n.toNat] (by simp [hlt])⟩
      have e : r = rows[n.toNat] := by simpa [hlt] using hr.symm
      rw [e]
    · exact ⟨_, ⟨h.1, h.2.1, h.2.2.1, h.2.2.2.1, rfl⟩, h.2.2.2.2⟩
    · exact h.elim
  case ixs x i =>
    simp only [opW, ixsW] at *
    split at h
    · rename_i s _ _ n _ _ _
      obtain ⟨h2, h3, h4⟩ := h
      have hlt : n.toNat < s.size := by omega
      refine ⟨_, ⟨h2, h3, fun r hr => ?_⟩, h4 s[n.toNat] (by simp [hlt])⟩
      have e : r = s[n.toNat] := by simpa [hlt] using hr.symm
      rw [e]
    · exact h.elim
  case ext i x =>
    simp only [opW, extW] at *
    split at h
    · split at h <;> first | exact ⟨_, rfl, h⟩ | exact h.elim
    · exact h.elim
  case call f as => exact h.elim
  case callv x as => exact h.elim
  case mkf f xs => exact ⟨_, rfl, h⟩
  case fu o x =>
    simp only [opW, fuW] at *
    split at h <;> first | exact ⟨_, rfl, h⟩ | exact h.elim
  case fcx x y =>
    simp only [opW, fcxW] at *
    split at h <;> first | exact ⟨_, ⟨h.1, rfl⟩, h.2⟩ | exact h.elim
  case len x =>
    simp only [opW, lenW] at *
    split at h <;> first | exact ⟨_, rfl, h⟩ | exact ⟨_, ⟨h.1, rfl⟩, h.2⟩ | exact h.elim
  case lenS x =>
    simp only [opW, lenSW] at *
    split at h <;> first | exact ⟨_, rfl, h⟩ | exact h.elim
  case app sz bytes z x y =>
    simp only [opW, appW] at *
    obtain ⟨h0, h⟩ := h
    split at h
    · exact h.elim
    · split at h
      · exact ⟨_, ⟨h0, h.1, h.2.1, rfl⟩, h.2.2⟩
      · exact ⟨_, ⟨h0, h.1, h.2.1, h.2.2.1, h.2.2.2.1, h.2.2.2.2.1, rfl⟩, h.2.2.2.2.2⟩
      · exact h.elim
  case appStr z x y =>
    simp only [opW, appW] at *
    split at h
    · split at h
      · exact ⟨_, ⟨h.1, h.2.1, rfl⟩, h.2.2⟩
      · exact ⟨_, ⟨h.1, h.2.1, h.2.2.1, h.2.2.2.1, h.2.2.2.2.1, rfl⟩, h.2.2.2.2.2⟩
      · exact h.elim
    · exact h.elim
  case copy sz x y =>
    simp only [opW, copyW] at *
    split at h
    · exact ⟨_, ⟨h.1, h.2.1, h.2.2.1, h.2.2.2.1, rfl⟩, h.2.2.2.2⟩
    · exact ⟨_, rfl, h⟩
    · exact h.elim
  case mm b x y =>
    simp only [opW, mmW] at *
    split at h <;> first | exact ⟨_, ⟨h.1, rfl⟩, h.2⟩ | exact h.elim
end Go.Eng
