/- Texts of the proof, one behind the other. -/
import Derived.WalkKit
import Derived.WalkLawsBesides
import Derived.RangeFuncNested
import Derived.RangeFuncLeaves
import Derived.ChangeKeysEq
import Derived.OrdersIn
set_option linter.unusedVariables false
set_option linter.unusedSimpArgs false
/-
  A verification-condition generator for the model's code, as plain functions. 'vc' walks a code with an environment that says
  what is known of each temporary, and yields a proposition about data and worlds alone. VcSound proves it sound over 'wpIn'.
-/
namespace Go.Vc
open Go

/-- The wide fence, in a round or in none. -/
def FW (rd : Option Nat) : Fence := { fn := fun _ => True, depth := none, alive := false, round := rd }

def sEq (x y : ByteArray) : Bool := x.toList == y.toList
def sLt (x y : ByteArray) : Bool := Op.bytesLess x.toList y.toList

/-! ### Conditions, told -/
inductive Cnd where
  | b (x : Bool)
  | lt (x y : Int)
  | le (x y : Int)
  | eq (x y : Int)
  | same (x y : Bool)
  | seq (x y : ByteArray)
  | not (c : Cnd)
  | and (c d : Cnd)
  | or (c d : Cnd)

def Cnd.val : Cnd → Bool
  | .b x => x
  | .lt x y => decide (x < y)
  | .le x y => decide (x ≤ y)
  | .eq x y => decide (x = y)
  | .same x y => x == y
  | .seq x y => sEq x y
  | .not c => !c.val
  | .and c d => c.val && d.val
  | .or c d => c.val || d.val

/-- The condition holds (u), or does not. -/
def Cnd.is : Cnd → Bool → Prop
  | .b x, true => x = true
  | .b x, false => x = false
  | .lt x y, true => x < y
  | .lt x y, false => y ≤ x
  | .le x y, true => x ≤ y
  | .le x y, false => y < x
  | .eq x y, true => x = y
  | .eq x y, false => x ≠ y
  | .same x y, true => x = y
  | .same x y, false => x ≠ y
  | .seq x y, true => x = y
  | .seq x y, false => x ≠ y
  | .not c, true => c.is false
  | .not c, false => c.is true
  | .and c d, true => c.is true ∧ d.is true
  | .and c d, false => c.is false ∨ d.is false
  | .or c d, true => c.is true ∨ d.is true
  | .or c d, false => c.is false ∧ d.is false

/-! ### What is known of a temporary -/
inductive SV where
  | v (x : Value)
  | b (x : Bool)
  | loc (b o : Nat)
  | p (c : Cnd)
  | fn (x : Value)

def SV.den : SV → Value
  | .v x => x
  | .b x => .bool x
  | .loc k o => .pointer (some ⟨k, o, none⟩)
  | .p c => .bool c.val
  | .fn x => x

structure Gd where
  i : Nat
  s : Nat
  t : Bool
  x : SV

structure St where
  e : List (Nat × Option SV)
  ge : List Gd
  ds : List Nat

def bq : Bool → Bool → Bool
  | true, x => x
  | false, true => false
  | false, false => true

def lkE : List (Nat × Option SV) → Nat → Option SV
  | [], _ => none
  | (j, x) :: r, i => match Nat.beq j i with
    | true => x
    | false => lkE r i

def lkG : List Gd → Nat → Option Gd
  | [], _ => none
  | g :: r, i => match Nat.beq g.i i with
    | true => some g
    | false => lkG r i

def hasC : List (Nat × Bool) → Nat → Bool → Bool
  | [], _, _ => false
  | (j, u) :: r, s, t => match Nat.beq j s, bq u t with
    | true, true => true
    | _, _ => hasC r s t

/-- The value of temporary i, the guards 'c' being known to hold. -/
def lk (st : St) (c : List (Nat × Bool)) (i : Nat) : Option SV :=
  match lkE st.e i with
  | some x => some x
  | none => match lkG st.ge i with
    | none => none
    | some g => match hasC c g.s g.t with
      | true => some g.x
      | false => match lkE st.e g.s with
        | some (.b u) => (match bq u g.t with
          | true => some g.x
          | false => none)
        | _ => none

def ofConst : Value → SV
  | .bool b => .b b
  | v => .v v

def ev (st : St) (c : List (Nat × Bool)) : Operand → Option SV
  | .tmp i => lk st c i
  | .const v => some (ofConst v)
  | .global g => some (.loc g 0)
  | .func f => some (.v (.func (.func f) #[] #[]))

def evs (st : St) (c : List (Nat × Bool)) : List Operand → Option (List SV)
  | [] => some []
  | x :: r => match ev st c x, evs st c r with
    | some y, some ys => some (y :: ys)
    | _, _ => none

def noG : List Gd → Nat → Bool
  | [], _ => true
  | g :: r, d => match Nat.beq g.s d with
    | true => false
    | false => noG r d

def put (st : St) : Option Nat → SV → St
  | none, _ => st
  | some d, x => { st with e := (d, some x) :: st.e }

def putG (st : St) (d s : Nat) (t : Bool) (x : SV) : St := { st with e := (d, none) :: st.e, ge := ⟨d, s, t, x⟩ :: st.ge }

def okDst (N : Nat) (st : St) : Option Nat → Bool
  | none => true
  | some d => match Nat.blt d N with
    | true => noG st.ge d
    | false => false

/-! ### Numbers, bools, strings -/
def kid : IntKind → Nat
  | .i8 => 0 | .i16 => 1 | .i32 => 2 | .i64 => 3 | .u8 => 4 | .u16 => 5 | .u32 => 6 | .u64 => 7

def shlI (k : IntKind) (x : Int) (n : Nat) : Int := k.wrap (x * 2 ^ (min n k.bits))
def shrI (k : IntKind) (x : Int) (n : Nat) : Int := x.fdiv (2 ^ (min n k.bits))
def quoI (k : IntKind) (x y : Int) : Int := k.wrap (x.tdiv y)
def remI (x y : Int) : Int := x.tmod y
/-- Byte i of a string. -/
def bAt (s : ByteArray) (i : Nat) : Int := ((s.data.toList.getD i 0).toNat : Int)

def mkB : SV → Option Bool
  | .b x => some x
  | .v (.bool x) => some x
  | .p c => some c.val
  | _ => none

def cndOf : SV → Option Cnd
  | .b x => some (.b x)
  | .v (.bool x) => some (.b x)
  | .p c => some c
  | _ => none

def notC : Cnd → Cnd
  | .not c => c
  | c => .not c

def notB : SV → Option SV
  | .b x => some (.b (match x with | true => false | false => true))
  | .v (.bool x) => some (.p (.not (.b x)))
  | .p c => some (.p (notC c))
  | _ => none

def isNilOp : Operand → Bool
  | .const (.slice none 0 0) => true
  | .const (.pointer none) => true
  | .const (.map none) => true
  | _ => false

def pickV (c : Cnd) : SV → SV → Option SV
  | .b true, y => (match cndOf y with | some d => some (.p (.or c d)) | none => none)
  | .b false, y => (match cndOf y with | some d => some (.p (.and (notC c) d)) | none => none)
  | .v (.bool x), .b false => some (.p (.and c (.b x)))
  | .v (.bool x), .b true => some (.p (.or (notC c) (.b x)))
  | .p x, .b false => some (.p (.and c x))
  | .p x, .b true => some (.p (.or (notC c) x))
  | .v (.bool x), .v (.bool y) => some (.v (.bool (bif c.val then x else y)))
  | .v (.bool x), .p y => some (.v (.bool (bif c.val then x else y.val)))
  | .p x, .v (.bool y) => some (.v (.bool (bif c.val then x.val else y)))
  | .p x, .p y => some (.v (.bool (bif c.val then x.val else y.val)))
  | .v (.int k x), .v (.int k' y) => (match Nat.beq (kid k) (kid k') with | true => some (.v (.int k (bif c.val then x else y))) | false => none)
  | _, _ => none

/-- Binary operators that cannot fail. -/
def arith (op : BinOp) (k : IntKind) (a b : Int) : Option SV :=
  match op with
  | .add => some (.v (.int k (k.wrap (a + b))))
  | .sub => some (.v (.int k (k.wrap (a - b))))
  | .mul => some (.v (.int k (k.wrap (a * b))))
  | .and => some (.v (.int k (bits .and k a b)))
  | .or => some (.v (.int k (bits .or k a b)))
  | .xor => some (.v (.int k (bits .xor k a b)))
  | .andNot => some (.v (.int k (bits .andNot k a b)))
  | .eql => some (.p (.eq a b))
  | .neq => some (.p (.not (.eq a b)))
  | .lss => some (.p (.lt a b))
  | .leq => some (.p (.le a b))
  | .gtr => some (.p (.lt b a))
  | .geq => some (.p (.le b a))
  | _ => none

def strOp (op : BinOp) (a b : ByteArray) : Option SV :=
  match op with
  | .eql => some (.p (.seq a b))
  | .neq => some (.p (.not (.seq a b)))
  | .lss => some (.p (.b (sLt a b)))
  | .leq => some (.p (.or (.b (sLt a b)) (.seq a b)))
  | .gtr => some (.p (.not (.or (.b (sLt a b)) (.seq a b))))
  | .geq => some (.p (.not (.b (sLt a b))))
  | _ => none

def posNat : Value → Option Nat
  | .int _ (.ofNat n) => some n
  | _ => none

/-- By a constant that is not 0, or a shift by a constant that is not below 0. -/
def byConst (op : BinOp) (k : IntKind) (a : Int) (c : Value) : Option SV :=
  match op, posNat c with
  | .shl, some n => some (.v (.int k (shlI k a n)))
  | .shr, some n => some (.v (.int k (shrI k a n)))
  | .quo, some (n + 1) => some (.v (.int k (quoI k a (Int.ofNat (n + 1)))))
  | .rem, some (n + 1) => some (.v (.int k (remI a (Int.ofNat (n + 1)))))
  | _, _ => none

def sameK (k k' : IntKind) (x : Option SV) : Option SV := match Nat.beq (kid k) (kid k') with | true => x | false => none

def shiftsB : BinOp → Bool
  | .shl => true | .shr => true | _ => false

def binPure (op : BinOp) (y : Operand) (a b : SV) : Option SV :=
  match a, b with
  | .v (.int k x), .v (.int k' z) =>
    (match y with
      | .const c => (match byConst op k x c with
        | some r => (match shiftsB op with | true => some r | false => sameK k k' (some r))
        | none => sameK k k' (arith op k x z))
      | _ => sameK k k' (arith op k x z))
  | .v (.string x), .v (.string z) => strOp op x z
  | _, _ => none

def negP (op : BinOp) (r : Cnd) : Option SV :=
  match op with
  | .eql => some (.p r)
  | .neq => some (.p (.not r))
  | _ => none

/-- Comparisons of bools, of slices and pointers and maps with nil; by the operands' type. -/
def eqPure (d : Option TypeDesc) (op : BinOp) (a b : SV) : Option SV :=
  match d with
  | some .bool => (match mkB a, mkB b with | some x, some y => negP op (.same x y) | _, _ => none)
  | some (.slice _) => (match a, b with
    | .v (.slice p _ _), .v (.slice none 0 0) => negP op (.b p.isNone)
    | _, _ => none)
  | some (.pointer _) => (match a, b with
    | .v (.pointer p), .v (.pointer none) => negP op (.b p.isNone)
    | .loc _ _, .v (.pointer none) => (match op with | .eql => some (.b false) | .neq => some (.b true) | _ => none)
    | _, _ => none)
  | some (.map _ _) => (match a, b with
    | .v (.map p), .v (.map none) => negP op (.b p.isNone)
    | _, _ => none)
  | _ => none

/-! ### Types -/
inductive Leaf where
  | int (k : IntKind)
  | bool
  | str
  | slc
  | ptr
  | map
  | any

def leafOf : Value → Leaf
  | .int k _ => .int k
  | .bool _ => .bool
  | .string _ => .str
  | .slice _ _ _ => .slc
  | .pointer _ => .ptr
  | .map _ => .map
  | _ => .any

def isAggD : Option TypeDesc → Bool
  | some (.struct _) => true
  | some (.array _ _) => true
  | _ => false

def leavesOf : List Value → List Leaf
  | [] => []
  | v :: r => leafOf v :: leavesOf r

structure Ty where
  agg : Bool
  ls : List Leaf
  zero : Value
  bytes : Nat
  big : Bool
  n : Nat

/-- An array of eight cells or more is told as one, whatever its cells. -/
def bigD : Option TypeDesc → Nat → Bool
  | some (.array _ _), n => Nat.blt 7 n
  | _, _ => false

/-- Of a type: is it a struct or an array; its cells' kinds; its zero value; its bytes. -/
def tyOf (P : Program) (t : TypeId) : Option Ty :=
  match P.info? t with
  | none => none
  | some i => match i.zero with
    | none => none
    | some z => match P.underlying t with
      | none => none
      | some d => match Nat.beq i.size z.cells.toList.length with
        | true => some { agg := isAggD (some d), ls := leavesOf z.cells.toList, zero := z, bytes := i.bytes, big := bigD (some d) i.size, n := i.size }
        | false => none

def sizeT (P : Program) (t : TypeId) : Option Nat := match P.info? t with | some i => some i.size | none => none

def Leaf.Ex : Leaf → (Value → Prop) → Prop
  | .int k, F => ∃ n : Int, F (.int k n)
  | .bool, F => ∃ b : Bool, F (.bool b)
  | .str, F => ∃ s : ByteArray, F (.string s)
  | .slc, F => ∃ (p : Option Addr) (n c : Nat), F (.slice p n c)
  | .ptr, F => ∃ p : Option Addr, F (.pointer p)
  | .map, F => ∃ r : Option Nat, F (.map r)
  | .any, F => ∃ v : Value, F v

def ExL : List Leaf → (List Value → Prop) → Prop
  | [], F => F []
  | l :: ls, F => l.Ex fun v => ExL ls fun vs => F (v :: vs)

def AllL : List Leaf → (List Value → Prop) → Prop
  | [], F => F []
  | .int k :: ls, F => ∀ n : Int, AllL ls fun vs => F (.int k n :: vs)
  | .bool :: ls, F => ∀ b : Bool, AllL ls fun vs => F (.bool b :: vs)
  | .str :: ls, F => ∀ s : ByteArray, AllL ls fun vs => F (.string s :: vs)
  | .slc :: ls, F => ∀ (p : Option Addr) (n c : Nat), AllL ls fun vs => F (.slice p n c :: vs)
  | .ptr :: ls, F => ∀ p : Option Addr, AllL ls fun vs => F (.pointer p :: vs)
  | .map :: ls, F => ∀ r : Option Nat, AllL ls fun vs => F (.map r :: vs)
  | .any :: ls, F => ∀ v : Value, AllL ls fun vs => F (v :: vs)

/-- A value of a type out of its cells. -/
def ofCells : Bool → List Value → Option SV
  | true, vs => some (.v (.agg vs.toArray))
  | false, [v] => some (.v v)
  | _, _ => none

/-- 'there is a value of the type, such that'. -/
def ExT (t : Ty) (F : SV → Prop) : Prop := match t.big with
  | true => ∃ vs : Array Value, vs.size = t.n ∧ F (.v (.agg vs))
  | false => ExL t.ls fun vs => match ofCells t.agg vs with | some x => F x | none => False

/-- Curried: over the cells of the slots that a loop hands on. -/
def Tel (R : Type) : List Leaf → Type
  | [] => R
  | .int _ :: ls => Int → Tel R ls
  | .bool :: ls => Bool → Tel R ls
  | .str :: ls => ByteArray → Tel R ls
  | .slc :: ls => Option Addr → Nat → Nat → Tel R ls
  | .ptr :: ls => Option Addr → Tel R ls
  | .map :: ls => Option Nat → Tel R ls
  | .any :: ls => Value → Tel R ls

def app {R : Type} : (ls : List Leaf) → Tel R ls → List Value → Option R
  | [], f, [] => some f
  | .int k :: ls, f, .int k' n :: vs => (match Nat.beq (kid k) (kid k') with | true => app ls (f n) vs | false => none)
  | .bool :: ls, f, .bool b :: vs => app ls (f b) vs
  | .str :: ls, f, .string s :: vs => app ls (f s) vs
  | .slc :: ls, f, .slice p n c :: vs => app ls (f p n c) vs
  | .ptr :: ls, f, .pointer p :: vs => app ls (f p) vs
  | .map :: ls, f, .map r :: vs => app ls (f r) vs
  | .any :: ls, f, v :: vs => app ls (f v) vs
  | _, _, _ => none

def atI {ls : List Leaf} (I : Tel (World → Prop) ls) (vs : List Value) (w : World) : Prop := match app ls I vs with | some p => p w | none => False
def atN {ls : List Leaf} (M : Tel (World → Nat) ls) (vs : List Value) (w : World) : Nat := match app ls M vs with | some p => p w | none => 0

/-! ### Memory -/
def off (o : Nat) : Nat → Nat
  | 0 => o
  | k + 1 => o + (k + 1)

def scale (k s : Nat) : Nat := match Nat.beq s 1 with | true => k | false => k * s

def loadL : List Leaf → (b o j : Nat) → World → (List Value → Prop) → Prop
  | [], _, _, _, _, F => F []
  | l :: ls, b, o, j, w, F => l.Ex fun v => w.cell? ⟨b, off o j, none⟩ = some v ∧ loadL ls b o (j + 1) w fun vs => F (v :: vs)

/-- The cells vs lie at b, from o on. -/
def CellsAt (w : World) (b o : Nat) (vs : Array Value) : Prop := ∀ k v, vs[k]? = some v → w.cell? ⟨b, o + k, none⟩ = some v

/-- What a variable of a type holds. -/
def loadT (ty : Ty) (b o : Nat) (w : World) (F : SV → Prop) : Prop := match ty.big with
  | true => ∃ vs : Array Value, vs.size = ty.n ∧ CellsAt w b o vs ∧ F (.v (.agg vs))
  | false => match ty.agg, ty.zero with
    | false, .nilFunc => ∃ v : Value, w.cell? ⟨b, o, none⟩ = some v ∧ F (.fn v)
    | _, _ => loadL ty.ls b o 0 w fun vs => match ofCells ty.agg vs with | some r => F r | none => False

/-- The cells vs can be stored at b, from o on. -/
def CanPut (w : World) (b o : Nat) (vs : Array Value) : Prop := ∀ k v, vs[k]? = some v → v.oneCell' = true ∧ (∃ u, w.cell? ⟨b, o + k, none⟩ = some u) ∧ w.frozen? ⟨b, o + k, none⟩ = false

/-- A type's zero cells. -/
def zeroA (P : Program) (t : TypeId) : Array Value := match tyOf P t with | some ty => ty.zero.cells | none => #[]

/-- Part of an array, from o on. -/
def pickL : List Leaf → Array Value → (o j : Nat) → (List Value → Prop) → Prop
  | [], _, _, _, F => F []
  | l :: ls, vs, o, j, F => l.Ex fun v => vs[off o j]? = some v ∧ pickL ls vs o (j + 1) fun xs => F (v :: xs)
def pickT (ty : Ty) (vs : Array Value) (o : Nat) (F : SV → Prop) : Prop := match ty.big with
  | true => F (.v (.agg (vs.extract o (o + ty.n))))
  | false => pickL ty.ls vs o 0 fun xs => match ofCells ty.agg xs with | some r => F r | none => False

/-- b is a new block, o. -/
def New (w : World) (o : Obj) (b : Nat) (w' : World) : Prop := b = w.heap.size ∧ w' = w.alloc o

def setL : List Value → (b o j : Nat) → World → World
  | [], _, _, _, w => w
  | v :: vs, b, o, j, w => setL vs b o (j + 1) (w.setCell ⟨b, off o j, none⟩ v)

/-- The values vs are stored at b, from o on. -/
def Put (w : World) (b o : Nat) (vs : List Value) (w' : World) : Prop := w' = setL vs b o 0 w

def Drew (w w' : World) : Prop := w' = w.drew

def storeL : List Value → (b o j : Nat) → World → Prop → Prop
  | [], _, _, _, _, X => X
  | v :: vs, b, o, j, w, X => match v.oneCell' with
    | true => (∃ u, w.cell? ⟨b, off o j, none⟩ = some u) ∧ w.frozen? ⟨b, off o j, none⟩ = false ∧ storeL vs b o (j + 1) w X
    | false => False

def asPtr (x : SV) (F : Nat → Nat → Prop) : Prop :=
  match x with
  | .loc b o => F b o
  | .v (.pointer (some ⟨b, o, none⟩)) => F b o
  | .v (.pointer p) => ∃ b o, p = some ⟨b, o, none⟩ ∧ F b o
  | _ => False

/-- Where 's[lo:hi:max]' begins. -/
def slBase (p : Option Addr) (l m size : Nat) : Option Addr := if m = l then p else p.map (·.add (l * size))

/-- The bytes that a slice of bytes holds. -/
def BytesAt (w : World) (p : Option Addr) (n : Nat) (l : List UInt8) : Prop :=
  l.length = n ∧ (0 < n → ∃ b o, p = some ⟨b, o, none⟩ ∧ ∀ i (h : i < l.length), w.cell? ⟨b, o + i, none⟩ = some (.int .u8 ((l[i].toNat : Nat) : Int)))

def fieldAt? (P : Program) (s : TypeId) (f : Nat) : Option (Nat × TypeId) :=
  match P.underlying s with
  | some (.struct fs) => (match fs.toList[f]? with
    | some x => some (x.offset, x.type)
    | none => none)
  | _ => none

def nthV : List Value → Nat → Option Value
  | [], _ => none
  | v :: _, 0 => some v
  | _ :: r, i + 1 => nthV r i

def cut (l : List Value) (a n : Nat) : List Value := (l.drop a).take n

def partL (P : Program) (t : TypeId) (cs : List Value) (o : Nat) : Option SV :=
  match tyOf P t with
  | none => none
  | some ty => match ty.agg with
    | true => some (.v (.agg (cut cs o ty.ls.length).toArray))
    | false => match nthV cs o with
      | some v => some (.v v)
      | none => none

def enterable (P : Program) (f : FuncId) : Bool :=
  match P.funcs[f]? with
  | none => false
  | some fn => fn.body.isSome && !(fn.name == "runtime.NumGoroutine")

def resTys (P : Program) (f : FuncId) : Option (List (Option Ty)) :=
  match P.funcs[f]? with
  | none => none
  | some fn => some (fn.resultTypes.toList.map (tyOf P))

def ExTs : List (Option Ty) → (List SV → Prop) → Prop
  | [], F => F []
  | none :: _, _ => False
  | some t :: ts, F => ExT t fun x => ExTs ts fun xs => F (x :: xs)

/-- What a call hands back. -/
def ofResults : List SV → SV
  | [x] => x
  | xs => .v (.tuple (xs.map SV.den).toArray)

/-! ### Operations without a choice -/
def dens : List SV → List Value
  | [] => []
  | x :: r => x.den :: dens r

def evParts (st : St) (c : List (Nat × Bool)) : List (Nat × Operand) → Option (List (Nat × Value))
  | [] => some []
  | (i, x) :: r => match ev st c x, evParts st c r with
    | some y, some ys => some ((i, y.den) :: ys)
    | _, _ => none

def mmI (mx : Bool) (x y : Int) : Int := match mx with
  | true => if y > x then y else x
  | false => if y < x then y else x

def lenPure (P : Program) (t : TypeId) (x : SV) : Option SV :=
  match P.underlying t, x with
  | some (.slice _), .v (.slice _ n _) => some (.v (.int .i64 (n : Int)))
  | some .string, .v (.string s) => some (.v (.int .i64 (s.size : Int)))
  | some (.array n _), _ => some (.v (.int .i64 (n : Int)))
  | _, _ => none

def convPure (P : Program) (dst : TypeId) (x : SV) : Option SV :=
  match x with
  | .v (.int _ n) => (match P.underlying dst with | some (.int k) => some (.v (.int k (k.wrap n))) | _ => none)
  | .v (.string s) => (match P.underlying dst with | some .string => some (.v (.string s)) | _ => none)
  | _ => none

def placesL (P : Program) : List Field → Option (List (Nat × Nat))
  | [] => some []
  | f :: r => match sizeT P f.type, placesL P r with
    | some n, some ps => some ((f.offset, n) :: ps)
    | _, _ => none

def pickOp (st : St) (c : List (Nat × Bool)) (co a b : Operand) : Option SV :=
  match ev st c co with
  | some (.b true) => ev st c a
  | some (.b false) => ev st c b
  | some v => (match cndOf v with
    | some g =>
      let ca := match co with | .tmp s => (s, true) :: c | _ => c
      let cb := match co with | .tmp s => (s, false) :: c | _ => c
      (match ev st ca a, ev st cb b with
        | some x, some y => pickV g x y
        | _, _ => none)
    | none => none)
  | none => none

def unPure (u : UnOp) (x : SV) : Option SV :=
  match u with
  | .not => notB x
  | .neg => (match x with | .v (.int k n) => some (.v (.int k (k.wrap (0 - n)))) | _ => none)
  | .xor => (match x with | .v (.int k n) => some (.v (.int k (bits .xor k (if k.signed then -1 else k.max) n))) | _ => none)
  | .plus => none

def builtinPure (P : Program) (b : Builtin) (xs : List SV) (ts : List TypeId) : Option SV :=
  match b with
  | .len => (match xs, ts with | [x], [t] => lenPure P t x | _, _ => none)
  | .cap => (match xs, ts with
    | [.v (.slice _ _ n)], [t] => (match P.underlying t with | some (.slice _) => some (.v (.int .i64 (n : Int))) | _ => none)
    | _, _ => none)
  | .min => (match xs with | [.v (.int k a), .v (.int _ b)] => some (.v (.int k (mmI false a b))) | _ => none)
  | .max => (match xs with | [.v (.int k a), .v (.int _ b)] => some (.v (.int k (mmI true a b))) | _ => none)
  | _ => none

/-! '==' at structs and arrays -/
def eqFs (P : Program) (E : TypeId → Value → Value → Option Cnd) : List Field → List Value → List Value → Option Cnd
  | [], _, _ => none
  | f :: r, xs, ys => match (f.name == "_"), partL P f.type xs f.offset, partL P f.type ys f.offset with
    | false, some a, some b => (match E f.type a.den b.den with
      | none => none
      | some c => (match r with
        | [] => some c
        | _ => (match eqFs P E r xs ys with | some d => some (.and c d) | none => none)))
    | _, _, _ => none

def eqEs (P : Program) (E : TypeId → Value → Value → Option Cnd) (e : TypeId) (s : Nat) : Nat → Nat → List Value → List Value → Option Cnd
  | 0, _, _, _ => none
  | n + 1, i, xs, ys => match partL P e xs (i * s), partL P e ys (i * s) with
    | some a, some b => (match E e a.den b.den with
      | none => none
      | some c => (match n with
        | 0 => some c
        | _ => (match eqEs P E e s n (i + 1) xs ys with | some d => some (.and c d) | none => none)))
    | _, _ => none

def eqV (P : Program) : List Unit → TypeId → Value → Value → Option Cnd
  | [], _, _, _ => none
  | _ :: f, t, x, y => match P.underlying t, x, y with
    | some .bool, .bool a, .bool b => some (.same a b)
    | some (.int _), .int k a, .int k' b => (match Nat.beq (kid k) (kid k') with | true => some (.eq a b) | false => none)
    | some .string, .string a, .string b => some (.seq a b)
    | some (.struct fs), .agg xs, .agg ys => (match P.stoodInHeld t with | true => none | false => eqFs P (eqV P f) fs.toList xs.toList ys.toList)
    | some (.array n e), .agg xs, .agg ys => (match sizeT P e with | some s => eqEs P (eqV P f) e s n 0 xs.toList ys.toList | none => none)
    | _, _, _ => none

def orT : Bool → Bool → Bool
  | true, _ => true
  | false, x => x
def bigT (P : Program) (t : TypeId) : Bool := match tyOf P t with | some ty => ty.big | none => false

def eqAgg (P : Program) (t : TypeId) (op : BinOp) (a b : SV) : Option SV :=
  match a, b with
  | .v (.agg xs), .v (.agg ys) => (match orT (P.eqGuardType P.depth t) (bigT P t) with
    | true => none
    | false => (match eqV P [(), (), (), ()] t (.agg xs) (.agg ys) with
      | some c => negP op c
      | none => none))
  | _, _ => none

def pureOp (P : Program) (st : St) (c : List (Nat × Bool)) (op : Op) : Option SV :=
  match op with
  | .move x => ev st c x
  | .assign x => ev st c x
  | .pick co a b => pickOp st c co a b
  | .binOp o t x y _ => (match ev st c x, ev st c y with
    | some a, some b => (match binPure o y a b with
      | some r => some r
      | none => (match eqPure (P.underlying t) o a b with
        | some r => some r
        | none => eqAgg P t o a b))
    | _, _ => none)
  | .unOp u _ x => (match ev st c x with | some a => unPure u a | none => none)
  | .convert src dst x => (match P.underlying src, ev st c x with | some _, some a => convPure P dst a | _, _ => none)
  | .extract t i => (match ev st c t with
    | some (.v (.tuple vs)) => (match nthV vs.toList i with
      | some v => some (.v v)
      | none => none)
    | _ => none)
  | .field s x f => (match fieldAt? P s f, ev st c x with
    | some (o, t), some (.v (.agg cs)) => partL P t cs.toList o
    | _, _ => none)
  | .fieldAddr s x f => (match fieldAt? P s f, ev st c x with
    | some (o, t), some (.loc b a) => (match sizeT P t with
      | some (_ + 1) => some (.loc b (off a o))
      | _ => none)
    | _, _ => none)
  | .makeFunc fn a b => (match evs st c a.toList, evs st c b.toList with
    | some x, some y => some (.v (.func fn (dens x).toArray (dens y).toArray))
    | _, _ => none)
  | .nilCheck x => (match ev st c x with
    | some (.loc b o) => some (.loc b o)
    | some (.v (.func (.func f) a b)) => some (.v (.func (.func f) a b))
    | some (.v (.func (.yield l) a b)) => some (.v (.func (.yield l) a b))
    | _ => none)
  | .call cl => (match cl.callee, evs st c cl.args.toList with | .builtin b, some xs => builtinPure P b xs cl.argTypes.toList | _, _ => none)
  | .build t ps => (match tyOf P t, evParts st c ps.toList, P.underlying t with
    | some ty, some xs, some (.struct fs) => (match placesL P fs.toList with
      | some ps => (match Instr.fill (fun i => ps[i]?) ty.zero.cells xs with
        | some cs => some (.v (.agg cs))
        | none => none)
      | none => none)
    | some ty, some xs, some (.array _ e) => (match sizeT P e with
      | some n => (match Instr.fill (fun i => some (i * n, n)) ty.zero.cells xs with
        | some cs => some (.v (.agg cs))
        | none => none)
      | none => none)
    | _, _, _ => none)
  | _ => none

/-! ### Operations that read, write, or may fail -/
/-- What lay in w lies so in w'. -/
def Same (w w' : World) : Prop := ∀ k, k < w.heap.size → w'.heap[k]? = w.heap[k]?

def isZ : Option Operand → Bool
  | none => true
  | _ => false

def valOp (P : Program) (st : St) (o : Oper) (w : World) (F : SV → World → Prop) : Prop :=
  match pureOp P st [] o.op with
  | some x => F x w
  | none => match o.op with
    | .alloc t => (match tyOf P t with
      | some ty => (match ty.big with
        | true => ∀ (b : Nat) (w' : World), New w (.cells (zeroA P t) t) b w' → F (.loc b 0) w'
        | false => ∀ (b : Nat) (w' : World), New w (.cells ty.zero.cells t) b w' → F (.loc b 0) w')
      | none => False)
    | .box t x => (match ev st [] x with
      | some a => ∀ (b : Nat) (w' : World), New w (.cells a.den.cells t) b w' → F (.loc b 0) w'
      | none => False)
    | .load t x => (match ev st [] x, tyOf P t with
      | some a, some ty => asPtr a fun b o => loadT ty b o w fun r => F r w
      | _, _ => False)
    | .store t x y => (match ev st [] x, ev st [] y, sizeT P t with
      | some a, some v, some n => (match bigT P t with
       | true => (match v with
        | .v (.agg vs) => vs.size = n ∧ asPtr a fun b o => CanPut w b o vs ∧ ∀ w' : World, Put w b o vs.toList w' → F (.v undef) w'
        | _ => False)
       | false => match Nat.beq n v.den.cells.toList.length with
        | true => asPtr a fun b o => storeL v.den.cells.toList b o 0 w (∀ w' : World, Put w b o v.den.cells.toList w' → F (.v undef) w')
        | false => False)
      | _, _, _ => False)
    | .nilCheck x => (match ev st [] x with
      | some (.v (.pointer p)) => ∃ b o, p = some ⟨b, o, none⟩ ∧ F (.loc b o) w
      | _ => False)
    | .fieldAddr s x f => (match fieldAt? P s f, ev st [] x with
      | some (k, t), some a => (match sizeT P t with
        | some (_ + 1) => asPtr a fun b o => F (.loc b (off o k)) w
        | _ => False)
      | _, _ => False)
    | .indexAddr t x i => (match ev st [] x, ev st [] i, P.underlying t with
      | some (.v (.slice p n _)), some (.v (.int _ k)), some (.slice e) => (match sizeT P e with
        | some s => ∃ b o, p = some ⟨b, o, none⟩ ∧ 0 ≤ k ∧ k < (n : Int) ∧ F (.loc b (o + scale k.toNat s)) w
        | none => False)
      | some a, some (.v (.int _ k)), some (.array n e) => (match sizeT P e with
        | some s => asPtr a fun b o => 0 ≤ k ∧ k < (n : Int) ∧ F (.loc b (o + scale k.toNat s)) w
        | none => False)
      | _, _, _ => False)
    | .index t x i => (match ev st [] x, ev st [] i, P.underlying t with
      | some (.v (.agg vs)), some (.v (.int _ k)), some (.array n e) => (match tyOf P e with
        | some ty => 0 ≤ k ∧ k < (n : Int) ∧ pickT ty vs (scale k.toNat ty.n) fun r => F r w
        | none => False)
      | some (.v (.string s)), some (.v (.int _ k)), some .string => 0 ≤ k ∧ k < (s.size : Int) ∧ F (.v (.int .u8 (bAt s k.toNat))) w
      | _, _, _ => False)
    | .slice t x lo hi mx => (match ev st [] x, P.underlying t with
      | some (.v (.string s)), some .string => (match mx with
        | some _ => False
        | none => (match lo, hi with
          | none, none => F (.v (.string s)) w
          | some lo, none => (match ev st [] lo with
            | some (.v (.int _ l)) => 0 ≤ l ∧ l ≤ (s.size : Int) ∧ F (.v (.string (s.extract l.toNat s.size))) w
            | _ => False)
          | none, some hi => (match ev st [] hi with
            | some (.v (.int _ h)) => 0 ≤ h ∧ h ≤ (s.size : Int) ∧ F (.v (.string (s.extract 0 h.toNat))) w
            | _ => False)
          | some lo, some hi => (match ev st [] lo, ev st [] hi with
            | some (.v (.int _ l)), some (.v (.int _ h)) => 0 ≤ l ∧ l ≤ h ∧ h ≤ (s.size : Int) ∧ F (.v (.string (s.extract l.toNat h.toNat))) w
            | _, _ => False)))
      | some (.v (.slice p n c)), some (.slice e) => (match sizeT P e with
        | none => False
        | some sz => (match lo, hi, mx with
          | none, none, none => F (.v (.slice p n c)) w
          | some lo, none, none => (match ev st [] lo with
            | some (.v (.int _ l)) => 0 ≤ l ∧ l ≤ (n : Int) ∧ F (.v (.slice (slBase p l.toNat c sz) (n - l.toNat) (c - l.toNat))) w
            | _ => False)
          | none, some hi, none => (match ev st [] hi with
            | some (.v (.int _ h)) => 0 ≤ h ∧ h ≤ (c : Int) ∧ F (.v (.slice p h.toNat c)) w
            | _ => False)
          | some lo, some hi, none => (match ev st [] lo, ev st [] hi with
            | some (.v (.int _ l)), some (.v (.int _ h)) => 0 ≤ l ∧ l ≤ h ∧ h ≤ (c : Int) ∧ F (.v (.slice (slBase p l.toNat c sz) (h.toNat - l.toNat) (c - l.toNat))) w
            | _, _ => False)
          | none, some hi, some mx => (match ev st [] hi, ev st [] mx with
            | some (.v (.int _ h)), some (.v (.int _ m)) => 0 ≤ h ∧ h ≤ m ∧ m ≤ (c : Int) ∧ F (.v (.slice p h.toNat m.toNat)) w
            | _, _ => False)
          | _, _, _ => False))
      | some a, some (.array n e) => (match sizeT P e, lo, hi, mx with
        | some sz, none, none, none => asPtr a fun b o => F (.v (.slice (some ⟨b, o, none⟩) n n)) w
        | some sz, some lo, none, none => (match ev st [] lo with
          | some (.v (.int _ l)) => asPtr a fun b o => 0 ≤ l ∧ l ≤ (n : Int) ∧ F (.v (.slice (slBase (some ⟨b, o, none⟩) l.toNat n sz) (n - l.toNat) (n - l.toNat))) w
          | _ => False)
        | some sz, none, some hi, none => (match ev st [] hi with
          | some (.v (.int _ h)) => asPtr a fun b o => 0 ≤ h ∧ h ≤ (n : Int) ∧ F (.v (.slice (some ⟨b, o, none⟩) h.toNat n)) w
          | _ => False)
        | _, _, _, _ => False)
      | _, _ => False)
    | .makeSlice t x y => (match ev st [] x, ev st [] y, P.underlying t with
      | some (.v (.int _ l)), some (.v (.int _ c)), some (.slice e) => (match tyOf P e with
        | some ty => 0 ≤ l ∧ l ≤ c ∧ (ty.bytes : Int) * c ≤ 281474976710656 ∧ c ≤ 9223372036854775807 ∧
            ∀ (b : Nat) (w' : World), New w (.cells (madeCells ty.zero.cells (scale c.toNat ty.ls.length)) e) b w' → F (.v (.slice (some ⟨b, 0, none⟩) l.toNat c.toNat)) w'
        | none => False)
      | _, _, _ => False)
    | .buildSlice t n ps => (match P.underlying t, evParts st [] ps.toList with
      | some (.slice e), some xs => (match tyOf P e with
        | some ty => (match Nat.ble (n * ty.ls.length) 1000, Instr.fill (fun i => some (i * ty.ls.length, ty.ls.length)) (madeCells ty.zero.cells (n * ty.ls.length)) xs with
          | true, some cs => ∀ (b : Nat) (w' : World), New w (.cells cs e) b w' → F (.v (.slice (some ⟨b, 0, none⟩) n n)) w'
          | _, _ => False)
        | none => False)
      | _, _ => False)
    | .binOp op t x y _ => (match ev st [] x, ev st [] y with
      | some (.v (.int k a)), some (.v (.int k' b)) => (match op with
        | .shl => 0 ≤ b ∧ F (.v (.int k (shlI k a b.toNat))) w
        | .shr => 0 ≤ b ∧ F (.v (.int k (shrI k a b.toNat))) w
        | .quo => (match Nat.beq (kid k) (kid k') with | true => b ≠ 0 ∧ F (.v (.int k (quoI k a b))) w | false => False)
        | .rem => (match Nat.beq (kid k) (kid k') with | true => b ≠ 0 ∧ F (.v (.int k (remI a b))) w | false => False)
        | _ => False)
      | some (.v (.string a)), some (.v (.string b)) => (match op with
        | .add => a.size + b.size ≤ 9223372036854775807 ∧ F (.v (.string (a ++ b))) w
        | _ => False)
      | some a, some b => ∃ r : Bool, (∀ w1 : World, (do eqGuard op t x y a.den b.den; binOp op t a.den b.den : Sem Value).run P w1 = .ok (.bool r) w1) ∧ F (.v (.bool r)) w
      | _, _ => False)
    | .convert src dst x => (match P.underlying src, P.underlying dst, ev st [] x with
      | some (.slice e), some .string, some (.v (.slice p n _)) => (match P.underlying e with
        | some (.int .u8) => ∃ l : List UInt8, BytesAt w p n l ∧ F (.v (.string ⟨l.toArray⟩)) w
        | _ => False)
      | some .string, some (.slice e), some (.v (.string s)) => (match P.underlying e with
        | some (.int .u8) => ∀ (c b : Nat) (w' : World), s.size ≤ c → New w.drew (.cells (bytesRow s c) e ((bytesRow s c).size, (bytesRow s c).size + 1)) b w' → F (.v (.slice (some ⟨b, 0, none⟩) s.size c)) w'
        | _ => False)
      | some (.slice _), some (.slice e), some (.v (.slice p n c)) => (match P.underlying e, Nat.beq src dst with
        | some (.int .u8), true => ∃ b o cs t fr, p = some ⟨b, o, none⟩ ∧ w.heap[b]? = some (.cells cs t fr) ∧ F (.v (.slice p n c)) (w.freeze ⟨b, cs.size, none⟩ 1)
        | _, _ => False)
      | _, _, _ => False)
    | .makeMap t none => ∀ (b : Nat) (w' : World), New w (.map #[] 0) b w' → F (.v (.map (some b))) w'
    | .lookup t x i ok => (match ev st [] x, ev st [] i, P.underlying t with
      | some a, some k, some (.map _ e) => (match tyOf P e, ok with
        | some ty, false => ExT ty fun r => (∀ w1, Same w w1 → (Instr.lookup t a.den k.den false).run P w1 = .ok r.den w1) ∧ F r w
        | some ty, true => ExT ty fun r => ∃ b : Bool, (∀ w1, Same w w1 → (Instr.lookup t a.den k.den true).run P w1 = .ok (.tuple #[r.den, .bool b]) w1) ∧ F (.v (.tuple #[r.den, .bool b])) w
        | _, _ => False)
      | _, _, _ => False)
    | .mapUpdate t m k x => (match ev st [] m, ev st [] k, ev st [] x with
      | some a, some b, some y => ∃ w', (Instr.mapUpdate t a.den b.den y.den).run P w = .ok () w' ∧ F (.v undef) w'
      | _, _, _ => False)
    | .call cl => (match cl.callee, evs st [] cl.args.toList, cl.argTypes.toList with
      | .builtin .append, some [a, b], [t, u] => ∃ (p : Option Addr) (n c : Nat) (w' : World), (Builtin.append_ #[t, u] o.type #[a.den, b.den]).run P w = .ok (.slice p n c) w' ∧ F (.v (.slice p n c)) w'
      | .builtin .copy, some [a, b], [t, u] => ∃ (n : Int) (w' : World), (Builtin.copy_ #[t, u] o.type #[a.den, b.den]).run P w = .ok (.int .i64 n) w' ∧ F (.v (.int .i64 n)) w'
      | _, _, _ => False)
    | _ => False

/-- A yield, in whatever fence. -/
def Yield (P : Program) (l : Nat) (args : Array Value) (w : World) (R : Bool → World → Prop) : Prop :=
  ∀ rd, YieldAt (FW rd) 0 P l args w fun e w' => ∃ b : Bool, e = .returned (.bool b) ∧ R b w'

def isCall : Op → Bool
  | .call cl => (match cl.callee with | .value _ => true | _ => false)
  | _ => false

/-- An operation, a call of a Go function among them. -/
def oneOp (P : Program) (st : St) (o : Oper) (w : World) (F : SV → World → Prop) : Prop :=
  match o.op with
  | .call cl => (match cl.callee with
    | .value f => (match ev st [] f, evs st [] cl.args.toList with
      | some (.v (.func (.func g) first cap)), some xs => (match enterable P g, resTys P g with
        | true, some ts => Calls P g (first.toList ++ (dens xs ++ cap.toList)).toArray w fun e w' => ExTs ts fun rs => e = .returned (ofResults rs).den ∧ F (ofResults rs) w'
        | false, some ts => ExTs ts fun rs => ∃ w', (callFunc g (first.toList ++ (dens xs ++ cap.toList)).toArray).run P w = .ok (.value (ofResults rs).den) w' ∧ F (ofResults rs) w'
        | _, _ => False)
      | some (.v (.func (.yield l) first _)), some xs => Yield P l (first.toList ++ dens xs).toArray w fun b w' => F (.v (.bool b)) w'
      | some (.fn v), some xs => ∃ l : Nat, v = .func (.yield l) #[] #[] ∧ Yield P l (dens xs).toArray w fun b w' => F (.v (.bool b)) w'
      | _, _ => False)
    | _ => valOp P st o w F)
  | _ => valOp P st o w F

/-! ### A region -/
def gdst (ops : List Oper) (j : Nat) : Option Nat :=
  match ops, j with
  | [], _ => none
  | o :: _, 0 => o.dst
  | _ :: r, j + 1 => gdst r j

inductive GV where
  | yes
  | no
  | split (s : Nat) (g : Cnd)
  | bad

/-- Does the guard 'temporary s holds t' hold? -/
def guardV (st : St) (s : Nat) (t : Bool) : GV :=
  match lkE st.e s with
  | some (.b u) => (match bq u t with | true => .yes | false => .no)
  | some (.v (.bool g)) => .split s (.b g)
  | some (.p g) => .split s g
  | some (.v (.tuple _)) => .no
  | some _ => .bad
  | none => match lkG st.ge s with
    | none => .bad
    | some d => match lkE st.e d.s with
      | some (.v (.bool g)) => .split d.s (.b g)
      | some (.p g) => .split d.s g
      | some (.b u) => (match bq u d.t with
        | false => .no
        | true => match d.x with
          | .b u' => (match bq u' t with | true => .yes | false => .no)
          | .v (.bool g) => .split s (.b g)
          | .p g => .split s g
          | _ => .bad)
      | none => (match lkG st.ge d.s with
        | none => .bad
        | some d2 => match lkE st.e d2.s with
          | some (.b u) => (match bq u d2.t with
            | false => .bad
            | true => match d2.x with
              | .v (.bool g) => .split d.s (.b g)
              | .p g => .split d.s g
              | _ => .bad)
          | _ => .bad)
      | _ => .bad

def skipO (st : St) (o : Oper) : St := put st o.dst (.v undef)

def refine' (st : St) (s : Nat) (u : Bool) : St := { st with e := (s, some (.b u)) :: st.e }

/-- An operation that hangs on the guard 'temporary s holds t'. -/
def gstep (P : Program) (o : Oper) (s : Nat) (t : Bool) (K : St → World → Prop) : List Unit → St → World → Prop
  | [], st, w => (match guardV st s t with
    | .yes => oneOp P st o w fun x w' => K (put st o.dst x) w'
    | .no => K (skipO st o) w
    | _ => False)
  | _ :: f, st, w => (match guardV st s t with
    | .yes => oneOp P st o w fun x w' => K (put st o.dst x) w'
    | .no => K (skipO st o) w
    | .bad => False
    | .split s' g => (match o.dst, Nat.beq s s', pureOp P st [(s, t)] o.op with
      | some d, true, some x => (match Nat.beq s d with
        | true => False
        | false => K (putG st d s t x) w)
      | _, _, _ => (g.is true → gstep P o s t K f (refine' st s' true) w) ∧ (g.is false → gstep P o s t K f (refine' st s' false) w)))

def vcOps (P : Program) (N : Nat) (all : List Oper) : List Oper → (St → World → Prop) → St → World → Prop
  | [], K, st, w => K { st with ge := [] } w
  | o :: rest, K, st, w =>
    match okDst N st o.dst with
    | false => False
    | true => match o.guard with
      | none => oneOp P st o w fun x w' => vcOps P N all rest K (put st o.dst x) w'
      | some (j, t) => match gdst all j with
        | none => False
        | some s => gstep P o s t (fun st' w' => vcOps P N all rest K st' w') [(), (), (), ()] st w

/-! ### A region that draws its order -/
def lenOp : Builtin → Bool
  | .len => true | .cap => true | .min => true | .max => true | _ => false

/-- An operation that leaves the world as it is. -/
def quietOp (P : Program) : Op → Bool
  | .move _ | .assign _ | .pick .. | .load .. | .nilCheck _ | .binOp .. | .unOp .. | .extract .. | .field .. | .fieldAddr .. | .indexAddr .. | .index .. | .slice .. | .makeFunc .. | .build .. | .lookup .. => true
  | .convert src dst _ => (match P.underlying src, P.underlying dst with | some .string, some (.slice _) => false | some (.slice _), some (.slice _) => false | _, _ => true)
  | .call cl => (match cl.callee with | .builtin b => lenOp b | _ => false)
  | _ => false

/-- An operation that looks into memory. -/
def readsOp : Op → Bool
  | .load .. => true
  | .lookup .. => true
  | .convert .. => true
  | _ => false

def memN : List Nat → Nat → Bool
  | [], _ => false
  | j :: r, i => match Nat.beq j i with | true => true | false => memN r i

/-- What an operation waits for, whatever the mode. -/
def preds (o : Oper) : List Nat := (o.after.toList.filter (Region.binds .any)).map (·.on)

def tmpsOf : List Operand → List Nat
  | [] => []
  | .tmp t :: r => t :: tmpsOf r
  | _ :: r => tmpsOf r

def looks (all : List Oper) (o : Oper) : List Nat :=
  tmpsOf o.op.operands.toList ++ (match o.guard with | some (j, _) => (match gdst all j with | some s => [s] | none => []) | none => [])

def noDup : List Nat → Bool
  | [] => true
  | i :: r => match memN r i with | true => false | false => noDup r

def dstsOf : List Oper → List Nat
  | [] => []
  | o :: r => match o.dst with | some d => d :: dstsOf r | none => dstsOf r

def allB {α : Type} (p : α → Bool) : List α → Bool
  | [] => true
  | x :: r => match p x with | true => allB p r | false => false

/-! Sets of numbers as bits. -/
def bit (i : Nat) : Nat := Nat.shiftLeft 1 i
def hasM (m i : Nat) : Bool := Nat.beq (Nat.land (Nat.shiftRight m i) 1) 1
def maskOf : List Nat → Nat
  | [] => 0
  | i :: r => Nat.lor (bit i) (maskOf r)
def subM (a b : Nat) : Bool := Nat.beq (Nat.land a b) a

def nthN : List Nat → Nat → Nat
  | [], _ => 0
  | x :: _, 0 => x
  | _ :: r, i + 1 => nthN r i

def nthO : List Oper → Nat → Option Oper
  | [], _ => none
  | x :: _, 0 => some x
  | _ :: r, i + 1 => nthO r i

/-- What hangs on somebody, to the bottom. -/
def clM (cs : List Nat) : List Nat → Nat → Nat
  | [], m => m
  | p :: r, m => clM cs r (Nat.lor m (Nat.lor (bit p) (nthN cs p)))

def closures : List Oper → List Nat → List Nat
  | [], cs => cs
  | o :: r, cs => closures r (cs ++ [clM cs (preds o) 0])

def backB : List Oper → Nat → Bool
  | [], _ => true
  | o :: r, k => match allB (fun i => Nat.blt i k) (preds o) with
    | true => backB r (k + 1)
    | false => false

/-- The number of the operation that writes t. -/
def wrOf : List Oper → Nat → Nat → Option Nat
  | [], _, _ => none
  | o :: r, k, t => match (match o.dst with | some d => Nat.beq d t | none => false) with
    | true => some k
    | false => wrOf r (k + 1) t

/-- The writer of a temporary that operation i looks at is waited for, or waits itself. -/
def seesB (all : List Oper) (cs : List Nat) : List Oper → Nat → Bool
  | [], _ => true
  | o :: r, i => match allB (fun t => match wrOf all 0 t with
      | none => true
      | some k => (match memN (preds o) k, hasM (nthN cs k) i, Nat.beq k i with
        | false, false, false => false
        | _, _, _ => true)) (looks all o) with
    | true => seesB all cs r (i + 1)
    | false => false

def orB : Bool → Bool → Bool
  | true, _ => true
  | false, x => x

def kpOf (c : Nat) : Bool := Nat.beq (Nat.mod c 2) 1
def ixOf (c : Nat) : Nat := Nat.div c 2

/-- The orders in which a region may go, as a tree: 2 i, or 2 i + 1 where what was there must lie behind operation i as it lay; 'alt': either. -/
inductive OT where
  | nil
  | one (c : Nat) (t : OT)
  | alt (s t : OT)

/-- A tree out of numbers: 0 the end, 1 either, c + 2 one. -/
def toT : Nat → List Nat → OT × List Nat
  | 0, l => (.nil, l)
  | _ + 1, [] => (.nil, [])
  | _ + 1, 0 :: r => (.nil, r)
  | n + 1, 1 :: r => (match toT n r with
    | (s, r') => (match toT n r' with
      | (t, r'') => (.alt s t, r'')))
  | n + 1, (c + 2) :: r => (match toT n r with
    | (t, r') => (.one c t, r'))
def treeOf (l : List Nat) : OT := match toT (l.length + 1) l with | (t, _) => t

def headsM : OT → Nat
  | .nil => 0
  | .one c _ => bit (ixOf c)
  | .alt s t => Nat.lor (headsM s) (headsM t)

/-- Each way begins with one that is not quiet. -/
def hardHd (P : Program) (all : List Oper) : OT → Bool
  | .nil => false
  | .one c _ => (match nthO all (ixOf c) with
    | some o => (match quietOp P o.op with | true => false | false => true)
    | none => false)
  | .alt s t => (match hardHd P all s with
    | true => hardHd P all t
    | false => false)

/-- Each that is not quiet and was not carried out is among the heads, or hangs on one of them. -/
def covB (P : Program) (cs : List Nat) (before H : Nat) : List Oper → Nat → Bool
  | [], _ => true
  | o :: r, k => match orB (quietOp P o.op) (orB (hasM before k) (orB (hasM H k) (match Nat.beq (Nat.land (nthN cs k) H) 0 with | true => false | false => true))) with
    | true => covB P cs before H r (k + 1)
    | false => false

/-- The tree is one of orders: each waits for those ahead of it alone; a quiet one behind one that is not quiet waits for somebody since then; of those that are not quiet the heads alone can be the next one;
  one that is not quiet waits (or: what was there lies as it lay) for all that read. -/
def chkT (P : Program) (all : List Oper) (cs : List Nat) : OT → (before since rds : Nat) → Bool → (H : Nat) → Bool
  | .nil, before, _, _, _, _ => subM (maskOf (List.range all.length)) before
  | .one c r, before, since, rds, any, H => match nthO all (ixOf c) with
    | none => false
    | some o => match subM (maskOf (preds o)) before, hasM before (ixOf c) with
      | true, false => (match quietOp P o.op with
        | true => (match orB (match any with | true => false | false => true) (match Nat.beq (Nat.land (maskOf (preds o)) since) 0 with | true => false | false => true) with
          | true => chkT P all cs r (Nat.lor before (bit (ixOf c))) (Nat.lor since (bit (ixOf c))) (Nat.lor rds (match readsOp o.op with | true => bit (ixOf c) | false => 0)) any (headsM r)
          | false => false)
        | false => (match covB P cs before H all 0, orB (kpOf c) (subM rds (nthN cs (ixOf c))) with
          | true, true => chkT P all cs r (Nat.lor before (bit (ixOf c))) (bit (ixOf c)) rds true (headsM r)
          | _, _ => false))
      | _, _ => false
  | .alt s t, before, since, rds, any, H => match hardHd P all s, hardHd P all t, chkT P all cs s before since rds any H, chkT P all cs t before since rds any H with
    | true, true, true, true => true
    | _, _, _, _ => false

def noSel : Op → Bool
  | .select _ _ => false
  | _ => true

def drawOk (P : Program) (N : Nat) (ops : List Oper) (od : OT) : Bool :=
  match allB (fun o => noSel o.op) ops, allB (fun d => Nat.blt d N) (dstsOf ops), noDup (dstsOf ops), backB ops 0, chkT P ops (closures ops []) od 0 0 0 false (headsM od), seesB ops (closures ops []) ops 0 with
  | true, true, true, true, true, true => true
  | _, _, _, _, _, _ => false

/-- The blocks that were read: these, or whatever lay in wr. -/
def inR : Option (List Nat) → World → Nat → Prop
  | none, wr, k => k < wr.heap.size
  | some l, _, k => k ∈ l

/-- What was read and lies in w lies so in w'. -/
def SameTo (bs : Option (List Nat)) (wr w w' : World) : Prop := ∀ k, inR bs wr k → k < w.heap.size → w'.heap[k]? = w.heap[k]?

/-- The block that an address lies in, where it is known. -/
def blkOf : Option SV → Option Nat
  | some (.loc b _) => some b
  | some (.v (.pointer (some ⟨b, _, none⟩))) => some b
  | _ => none

/-- The one block that an operation reads, where it is known. -/
def rdSet (st : St) (o : Oper) : Option Nat :=
  match o.guard with
  | some _ => none
  | none => match o.op with
    | .load _ x => blkOf (ev st [] x)
    | _ => none

def pickR (r : Bool) (x : Option Nat) (w wr : World) (bs : Option (List Nat)) (F : World → Option (List Nat) → Prop) : Prop :=
  match r with
  | false => F wr bs
  | true => match x, bs with
    | some b, some l => F w (some (b :: l))
    | _, _ => F w none

/-- The operations of a region in each order of the tree; bs, wr: the blocks that were read; the world at the last one that read. -/
def vcOrd (P : Program) (N : Nat) (all : List Oper) : OT → (St → World → Prop) → Option (List Nat) → World → St → World → Prop
  | .nil, K, _, _, st, w => K { st with ge := [] } w
  | .one c rest, K, bs, wr, st, w => match nthO all (ixOf c) with
    | none => False
    | some o => match okDst N st o.dst with
      | false => False
      | true => pickR (readsOp o.op) (rdSet st o) w wr bs fun wr' bs' => match o.guard with
        | none => oneOp P st o w fun v w' => match kpOf c with
          | true => SameTo bs wr w w' ∧ vcOrd P N all rest K bs' wr' (put st o.dst v) w'
          | false => vcOrd P N all rest K bs' wr' (put st o.dst v) w'
        | some (j, t) => match gdst all j with
          | none => False
          | some s => gstep P o s t (fun st' w' => match kpOf c with
            | true => SameTo bs wr w w' ∧ vcOrd P N all rest K bs' wr' st' w'
            | false => vcOrd P N all rest K bs' wr' st' w') [(), (), (), ()] st w
  | .alt s t, K, bs, wr, st, w => vcOrd P N all s K bs wr st w ∧ vcOrd P N all t K bs wr st w

def lkO : List (Nat × List Nat) → Nat → List Nat
  | [], _ => []
  | (j, x) :: r, i => match Nat.beq j i with
    | true => x
    | false => lkO r i

def vcRegion (P : Program) (N : Nat) (od : List Nat) (ops : List Oper) (draw : Bool) (K : St → World → Prop) (st : St) (w : World) : Prop :=
  match draw with
  | false => vcOps P N ops ops K st w
  | true => match drawOk P N ops (treeOf od) with
    | true => ∀ w' : World, Drew w w' → vcOrd P N ops (treeOf od) K (some []) w' st w'
    | false => False

/-! The order that is wanted: reckoned on the bench, printed. Each quiet operation as early as it can be. -/
def takeQ (P : Program) : List (Nat × Oper) → Nat → List Nat → Nat → List (Nat × Oper) → List Nat × Nat × Nat × List (Nat × Oper)
  | [], s, got, rds, rest => (got.reverse, s, rds, rest.reverse)
  | n :: r, s, got, rds, rest => match quietOp P n.2.op, subM (maskOf (preds n.2)) s with
    | true, true => takeQ P r (Nat.lor s (bit n.1)) (n.1 :: got) (match readsOp n.2.op with | true => Nat.lor rds (bit n.1) | false => rds) rest
    | _, _ => takeQ P r s got rds (n :: rest)

/-- Those that are not quiet and may be the next one. -/
def readyH (P : Program) : List (Nat × Oper) → Nat → List Nat
  | [], _ => []
  | n :: r, s => match quietOp P n.2.op, subM (maskOf (preds n.2)) s with
    | false, true => n.1 :: readyH P r s
    | _, _ => readyH P r s

def without (h : Nat) : List (Nat × Oper) → List (Nat × Oper)
  | [] => []
  | n :: r => match Nat.beq n.1 h with | true => r | false => n :: without h r

def altsOf : List Nat → (Nat → List Nat) → List Nat
  | [], _ => [0]
  | [h], F => F h
  | h :: r, F => 1 :: (F h ++ altsOf r F)

def orderOf (P : Program) (cs : List Nat) : Nat → List (Nat × Oper) → Nat → Nat → List Nat
  | 0, _, _, _ => [0]
  | f + 1, l, s, rds =>
    match takeQ P l s [] rds [] with
    | (qs, s', rds', l') => qs.map (2 * · + 2) ++ altsOf (readyH P l' s') fun h => ((match subM rds' (nthN cs h) with | true => 2 * h | false => 2 * h + 1) + 2) :: orderOf P cs f (without h l') (Nat.lor s' (bit h)) rds'

def ordOf (P : Program) (ops : List Oper) : List Nat := orderOf P (closures ops []) (ops.length + 1) ((List.range ops.length).zip ops) 0 0

/-- Of all regions of a code that draw. -/
def ordsOf (P : Program) : Code → List (Nat × List Nat)
  | .region id ops draw => (match draw with | true => [(id, ordOf P ops.toList)] | false => [])
  | .seq a b => ordsOf P a ++ ordsOf P b
  | .cond _ a b => ordsOf P a ++ ordsOf P b
  | .block _ b => ordsOf P b
  | .loop b => ordsOf P b
  | .scope b => ordsOf P b
  | .rangeFunc _ _ a b => ordsOf P a ++ ordsOf P b
  | _ => []

/-! ### Code -/
def wrOps : List Oper → List (Nat × TypeId)
  | [] => []
  | o :: r => match o.dst with
    | some d => (d, o.type) :: wrOps r
    | none => wrOps r

def joinW : Option (List (Nat × TypeId)) → Option (List (Nat × TypeId)) → Option (List (Nat × TypeId))
  | some x, some y => some (x ++ y)
  | some x, none => some x
  | none, y => y

def isN : Option Nat → Bool
  | none => true
  | _ => false

def oBeq : Option Nat → Option Nat → Bool
  | none, none => true
  | some a, some b => Nat.beq a b
  | _, _ => false

/-- The temporaries written on the ways that end as t says (none: off the end; some id: by 'exit id'); none: there is no such way. -/
def wr (t : Option Nat) : Code → Option (List (Nat × TypeId))
  | .skip => (match isN t with | true => some [] | false => none)
  | .label _ => (match isN t with | true => some [] | false => none)
  | .region _ ops _ => (match isN t with | true => some (wrOps ops.toList) | false => none)
  | .seq a b => (match wr none a with
    | some x => (match isN t with
      | true => (match wr t b with | some y => some (x ++ y) | none => none)
      | false => joinW (match wr t b with | some y => some (x ++ y) | none => none) (wr t a))
    | none => (match isN t with | true => none | false => wr t a))
  | .cond _ a b => joinW (wr t a) (wr t b)
  | .block id b => (match isN t with
    | true => joinW (wr none b) (wr (some id) b)
    | false => (match oBeq t (some id) with | true => none | false => wr t b))
  | .loop b => (match isN t with
    | true => none
    | false => (match wr t b with
      | some y => (match wr none b with | some x => some (x ++ y) | none => some y)
      | none => none))
  | .exit id => (match oBeq t (some id) with | true => some [] | false => none)
  | .scope b => wr t b
  | .rangeFunc _ _ _ _ => some []
  | _ => none

/-- Does a code hold a range over a function? -/
def hasRg : Code → Bool
  | .seq a b => orB (hasRg a) (hasRg b)
  | .cond _ a b => orB (hasRg a) (hasRg b)
  | .block _ b => hasRg b
  | .loop b => hasRg b
  | .scope b => hasRg b
  | .rangeFunc _ _ _ _ => true
  | _ => false

def inW : List (Nat × TypeId) → Nat → Bool
  | [], _ => false
  | p :: r, i => match Nat.beq p.1 i with | true => true | false => inW r i

def inS : List (Nat × Ty) → Nat → Bool
  | [], _ => false
  | p :: r, i => match Nat.beq p.1 i with | true => true | false => inS r i

/-- What a loop hands on of a variable of a type. -/
def slotTy (P : Program) (t : TypeId) : Option Ty := match tyOf P t with
  | none => none
  | some ty => (match ty.big with
    | true => some { agg := false, ls := [.any], zero := .nilFunc, bytes := 0, big := false, n := 1 }
    | false => some ty)

/-- The written temporaries that are known already: what a loop hands on from round to round. -/
def carry (P : Program) (st : St) : List (Nat × TypeId) → Option (List (Nat × Ty))
  | [] => some []
  | p :: r => match carry P st r with
    | none => none
    | some acc => match inS acc p.1, lkE st.e p.1 with
      | true, _ => some acc
      | false, none => some acc
      | false, some _ => match slotTy P p.2 with
        | some ty => some ((p.1, ty) :: acc)
        | none => none

def lsOf : List (Nat × Ty) → List Leaf
  | [] => []
  | p :: r => p.2.ls ++ lsOf r

def cellsAs (agg : Bool) (x : Value) : Option (List Value) :=
  match agg, x with
  | true, .agg cs => some cs.toList
  | true, _ => none
  | false, v => some [v]

def slotVals (st : St) : List (Nat × Ty) → Option (List Value)
  | [] => some []
  | p :: r => match lkE st.e p.1, slotVals st r with
    | some x, some vs => (match cellsAs p.2.agg x.den with
      | some cs => (match Nat.beq cs.length p.2.ls.length with
        | true => some (cs ++ vs)
        | false => none)
      | none => none)
    | _, _ => none

def setSlots : List (Nat × Ty) → List Value → Option (List (Nat × Option SV))
  | [], _ => some []
  | p :: r, vs => match ofCells p.2.agg (vs.take p.2.ls.length), setSlots r (vs.drop p.2.ls.length) with
    | some x, some es => some ((p.1, some x) :: es)
    | _, _ => none

def blank : List (Nat × TypeId) → List (Nat × Option SV)
  | [] => []
  | p :: r => (p.1, none) :: blank r

def headSt (st : St) (ws : List (Nat × TypeId)) (slots : List (Nat × Ty)) (vs : List Value) : Option St :=
  match setSlots slots vs with
  | some es => some { e := es ++ (blank ws ++ st.e), ge := [], ds := st.ds }
  | none => none

/-- The number of the first region of a code. -/
def firstR : Code → Option Nat
  | .region id _ _ => some id
  | .seq a b => (match firstR a with | some i => some i | none => firstR b)
  | .block _ b => firstR b
  | .loop b => firstR b
  | .scope b => firstR b
  | _ => none

def cutHere (cuts : List Nat) (c : Code) : Bool := match firstR c with | some i => memN cuts i | none => false

def nth? {α : Type} : List α → Nat → Option α
  | [], _ => none
  | x :: _, 0 => some x
  | _ :: r, i + 1 => nth? r i

/-- Of the written temporaries those that bear a name. -/
def named (P : Program) (nm : List Bool) : List (Nat × TypeId) → Option (List (Nat × Ty))
  | [] => some []
  | p :: r => match named P nm r with
    | none => none
    | some acc => match inS acc p.1, nth? nm p.1 with
      | false, some true => (match slotTy P p.2 with
        | some ty => some ((p.1, ty) :: acc)
        | none => none)
      | _, _ => some acc

structure Cfg where
  N : Nat
  cuts : List Nat
  ords : List (Nat × List Nat)
  nm : List Bool
  rd : Option Nat

/-! ### A range over a function -/
/-- The type in which a loop variable is assigned. -/
def asgTy (t : Nat) : List Oper → Option TypeId
  | [] => none
  | o :: r => match (match o.op with
      | .assign (.tmp s) => Nat.beq s t
      | .box _ (.tmp s) => Nat.beq s t
      | .store _ _ (.tmp s) => Nat.beq s t
      | _ => false) with
    | true => (match o.op with
      | .box e _ => some e
      | .store e _ _ => some e
      | _ => some o.type)
    | false => asgTy t r

def regOps : Code → List Oper
  | .region _ ops _ => ops.toList
  | .seq a b => regOps a ++ regOps b
  | .scope a => regOps a
  | .block _ a => regOps a
  | _ => []

def anyTy : Ty := { agg := false, ls := [.any], zero := .nilFunc, bytes := 0, big := false, n := 1 }

def parTys (P : Program) (ag : List Oper) : List Nat → Option (List (Nat × Ty))
  | [] => some []
  | t :: r => match asgTy t ag, parTys P ag r with
    | some ty, some ts => (match tyOf P ty with
      | some x => some ((t, x) :: ts)
      | none => none)
    | none, some ts => some ((t, anyTy) :: ts)
    | _, none => none

/-- The values of yield's arguments out of their cells. -/
def packL : List (Nat × Ty) → List Value → Option (List SV)
  | [], _ => some []
  | p :: r, vs => match ofCells p.2.agg (vs.take p.2.ls.length), packL r (vs.drop p.2.ls.length) with
    | some x, some xs => some (x :: xs)
    | _, _ => none

def zipE : List (Nat × Ty) → List SV → List (Nat × Option SV)
  | p :: r, x :: xs => (p.1, some x) :: zipE r xs
  | _, _ => []

def keysOf : List (Nat × Ty) → List Nat
  | [] => []
  | p :: r => p.1 :: keysOf r

def parsOk (N : Nat) (l : List Nat) : Bool := match noDup l with | true => allB (fun i => Nat.blt i N) l | false => false

/-- The exits by which a code may be left for a block around it. -/
def exitsOf (inner : List Nat) : Code → List Nat
  | .seq a b => exitsOf inner a ++ exitsOf inner b
  | .cond _ a b => exitsOf inner a ++ exitsOf inner b
  | .block id b => exitsOf (id :: inner) b
  | .loop b => exitsOf inner b
  | .scope b => exitsOf inner b
  | .rangeFunc _ _ a b => exitsOf inner a ++ exitsOf inner b
  | .exit id => (match memN inner id with | true => [] | false => [id])
  | _ => []

def rets : Code → Bool
  | .seq a b => orB (rets a) (rets b)
  | .cond _ a b => orB (rets a) (rets b)
  | .block _ b => rets b
  | .loop b => rets b
  | .scope b => rets b
  | .rangeFunc _ _ _ b => rets b
  | .ret => true
  | _ => false

def OrIds (F : Nat → Prop) (last : Prop) : List Nat → Prop
  | [] => last
  | id :: r => F id ∨ OrIds F last r

/-- The loop's record at l is k's: 0 a round may begin, 1 in a round, 2 over, 3 left by 'return', 4 over then, 5 + 2 i left for block i, 6 + 2 i over then. -/
def Rec (r : Nat → Loop) (l k : Nat) (w : World) : Prop := w.heap[l]? = some (.loop (r k))
def turn (r : Nat → Loop) (l k : Nat) (w : World) : World := w.putObj l (.loop (r k))

/-- The loop has begun: its block for deferred calls, its record. -/
def Began (w : World) (r : Nat → Loop) (d l : Nat) (w1 : World) : Prop := d = w.heap.size ∧ l = w.heap.size + 1 ∧ w1 = (w.alloc (.deferred (some []))).alloc (.loop (r 0))

/-- Open deferred blocks, all unlike, none of them below B. -/
def Open (B : Nat) (ds : List Nat) (w : World) : Prop := ds.Nodup ∧ ∀ d ∈ ds, B ≤ d ∧ w.heap[d]? = some (.deferred (some []))

/-- How the statement goes on when the iterator has returned. -/
def ranged (r : Nat → Loop) (l : Nat) (ret : Bool) (exs : List Nat) (Q : Exit → St → World → Prop) (st' : St) (W : World) : Prop :=
  (Rec r l 0 W ∧ Q .normal st' (turn r l 2 W)) ∨ (match ret with
    | true => (Rec r l 3 W ∧ Q .ret st' (turn r l 4 W)) ∨ OrIds (fun id => Rec r l (5 + 2 * id) W ∧ Q (.exit id) st' (turn r l (6 + 2 * id) W)) False exs
    | false => OrIds (fun id => Rec r l (5 + 2 * id) W ∧ Q (.exit id) st' (turn r l (6 + 2 * id) W)) False exs)

/-- A range over a function: 'round' is a round: the assignment to its variables, then the body. -/
def rangeVC (P : Program) (g : FuncId) (lb : List Value) (ts : List (Nat × Ty)) (r : Nat → Loop) (l : Nat) (ret : Bool) (exs : List Nat) (Q : Exit → St → World → Prop) (st' : St) (w1 : World)
    (round : List SV → (Bool → World → Prop) → World → Prop) : Prop :=
    (AllL (lsOf ts) fun vs => match packL ts vs with
      | none => True
      | some xs => ∀ (W : World) (R : Bool → World → Prop), Rec r l 0 W → round xs R W → Yield P l (dens xs).toArray W R) →
    Calls P g (.func (.yield l) #[] #[] :: lb).toArray w1 fun e W => (∃ v : Value, e = .returned v) ∧ ranged r l ret exs Q st' W

def pushes (C : Cfg) (b : Bool) : Bool := match C.rd with | none => b | some _ => false

/-- Where a code may lay blocks for deferred calls: they are open, whichever there are. -/
def opens (C : Cfg) (b : Bool) (B : Nat) (ds : List Nat) (w : World) (X : Prop) : Prop := match pushes C b with
  | true => Open B ds w ∧ X
  | false => X
def allDs (C : Cfg) (b : Bool) (B : Nat) (ds : List Nat) (w : World) (K : List Nat → Prop) : Prop := match pushes C b with
  | true => ∀ ds', Open B ds' w → K ds'
  | false => K ds
def withB (C : Cfg) (b : Bool) (K : Nat → Prop) : Prop := match pushes C b with
  | true => ∃ B : Nat, K B
  | false => K 0

def vc (P : Program) : Cfg → Code → (Exit → St → World → Prop) → St → World → Prop
  | C, .skip, Q, st, w => Q .normal st w
  | C, .label _, Q, st, w => Q .normal st w
  | C, .exit id, Q, st, w => Q (.exit id) st w
  | C, .ret, Q, st, w => Q .ret st w
  | C, .region id ops draw, Q, st, w => vcRegion P C.N (lkO C.ords id) ops.toList draw (fun st' w' => Q .normal st' w') st w
  | C, .cond c a b, Q, st, w => (match ev st [] c with
    | some (.b true) => vc P C a Q st w
    | some (.b false) => vc P C b Q st w
    | some x => (match cndOf x with
      | some g => (g.is true → vc P C a Q st w) ∧ (g.is false → vc P C b Q st w)
      | none => False)
    | none => False)
  | C, .block id b, Q, st, w => vc P C b (fun ex st' w' => match ex with
    | .exit j => (match Nat.beq j id with | true => Q .normal st' w' | false => Q (.exit j) st' w')
    | e => Q e st' w') st w
  | C, .scope b, Q, st, w => vc P C b (fun ex st' w' => match ex with
    | .goto _ => False
    | e => Q e st' w') st w
  | C, .seq a b, Q, st, w => (match cutHere C.cuts b with
    | false => vc P C a (fun ex st' w' => match ex with
      | .normal => vc P C b Q st' w'
      | e => Q e st' w') st w
    | true => (match wr none a with
      | none => vc P C a (fun ex st' w' => match ex with
        | .normal => False
        | e => Q e st' w') st w
      | some ws => (match named P C.nm ws with
        | none => False
        | some slots => ∃ J : Tel (World → Prop) (lsOf slots), withB C (hasRg a) fun B =>
          vc P C a (fun ex st' w' => match ex with
            | .normal => opens C (hasRg a) B st'.ds w' (match slotVals st' slots with | some vs => atI J vs w' | none => False)
            | e => Q e st' w') st w ∧
          AllL (lsOf slots) fun vs => ∀ w' : World, atI J vs w' → (match headSt st ws slots vs with
            | some st1 => allDs C (hasRg a) B st.ds w' fun ds => vc P C b Q { st1 with ds := ds } w'
            | none => False))))
  | C, .loop b, Q, st, w => (match wr none b with
    | none => vc P C b (fun ex st' w' => match ex with
      | .normal => False
      | e => Q e st' w') st w
    | some ws => (match carry P st ws with
      | none => False
      | some slots => (match slotVals st slots with
        | none => False
        | some vs0 => ∃ (I : Tel (World → Prop) (lsOf slots)) (M : Tel (World → Nat) (lsOf slots)), withB C (hasRg b) fun B => atI I vs0 w ∧ opens C (hasRg b) B st.ds w (
          AllL (lsOf slots) fun vs => ∀ w' : World, atI I vs w' → (match headSt st ws slots vs with
            | none => False
            | some st1 => allDs C (hasRg b) B st.ds w' fun ds => vc P C b (fun ex st' w'' => match ex with
              | .normal => opens C (hasRg b) B st'.ds w'' (match slotVals st' slots with
                | some vs' => atI I vs' w'' ∧ atN M vs' w'' < atN M vs w'
                | none => False)
              | e => Q e st' w'') { st1 with ds := ds } w')))))
  | C, .rangeFunc f ps asg body, Q, st, w => (match ev st [] f, parTys P (regOps asg) ps.toList with
    | some (.v fv), some ts => (match parsOk C.N (keysOf ts) with
      | true => ∃ (g : FuncId) (lb : Array Value), fv = .func (.func g) #[] lb ∧ enterable P g = true ∧ (match C.rd with
        | none => ∀ (r : Nat → Loop) (d l : Nat) (w1 : World), Began w r d l w1 → rangeVC P g lb.toList ts r l (rets body) (exitsOf [] body) Q { st with ds := d :: st.ds } w1 fun xs R W =>
            vc P { C with rd := some l } asg (fun ex st2 Wa => match ex with
              | .normal => Rec r l 0 Wa ∧ ∀ Wb : World, Wb = turn r l 1 Wa → vc P { C with rd := some l } body (fun ex _ W3 => Rec r l 1 W3 ∧ (match ex with
                | .normal => R true (turn r l 0 W3)
                | .ret => R false (turn r l 3 W3)
                | .exit id => R false (turn r l (5 + 2 * id) W3)
                | _ => False)) st2 Wb
              | _ => False) { e := zipE ts xs ++ st.e, ge := [], ds := [] } W
        | some l0 => (∃ q : Loop, w.heap[l0]? = some (.loop q)) ∧ ∀ (r : Nat → Loop) (l : Nat) (w1 : World), New w (.loop (r 0)) l w1 → rangeVC P g lb.toList ts r l (rets body) (exitsOf [] body) Q st w1 fun xs R W =>
            vc P { C with rd := some l } asg (fun ex st2 Wa => match ex with
              | .normal => Rec r l 0 Wa ∧ ∀ Wb : World, Wb = turn r l 1 Wa → vc P { C with rd := some l } body (fun ex _ W3 => Rec r l 1 W3 ∧ (match ex with
                | .normal => R true (turn r l 0 W3)
                | .ret => R false (turn r l 3 W3)
                | .exit id => R false (turn r l (5 + 2 * id) W3)
                | _ => False)) st2 Wb
              | _ => False) { e := zipE ts xs ++ st.e, ge := [], ds := [] } W)
      | false => False)
    | _, _ => False)
  | _, _, _, _, _ => False

/-! ### A function -/
def resVC (P : Program) (st : St) (w : World) : List ResultVar → (List SV → Prop) → Prop
  | [], F => F []
  | .tmp t :: r, F => (match lkE st.e t with
    | some x => resVC P st w r fun xs => F (x :: xs)
    | none => False)
  | .cell d t :: r, F => (match lkE st.e d, tyOf P t with
    | some a, some ty => asPtr a fun b o => loadT ty b o w fun x => resVC P st w r fun xs => F (x :: xs)
    | _, _ => False)

/-- The blocks for the rounds' deferred calls are taken, one behind the other. -/
def unD : List Nat → World → (World → Prop) → Prop
  | [], w, F => F w
  | d :: r, w, F => w.heap[d]? = some (.deferred (some [])) ∧ unD r (w.putObj d (.deferred none)) F

def retQ (P : Program) (fn : Func) (R : Ending → World → Prop) : Exit → St → World → Prop
  | .normal, st, w => unD st.ds w fun w' => resVC P st w' fn.results.toList fun xs => R (.returned (ofResults xs).den) w'
  | .ret, st, w => unD st.ds w fun w' => resVC P st w' fn.results.toList fun xs => R (.returned (ofResults xs).den) w'
  | _, _, _ => False

def initE : List Value → Nat → List (Nat × Option SV)
  | [], _ => []
  | v :: r, i => (i, some (.v v)) :: initE r (i + 1)

def namesB : List String → List Bool
  | [] => []
  | s :: r => (match s.toList with | [] => false | _ => true) :: namesB r

def cfgOf (cuts : List Nat) (ords : List (Nat × List Nat)) (fn : Func) : Cfg := { N := fn.ntmps, cuts := cuts, ords := ords, nm := namesB fn.tmpNames.toList, rd := none }

/-- The verification condition of a call of fn. -/
def vcFn (P : Program) (cuts : List Nat) (ords : List (Nat × List Nat)) (fn : Func) (args : List Value) (w : World) (R : Ending → World → Prop) : Prop :=
  match fn.body with
  | none => False
  | some c => match Nat.ble args.length fn.ntmps with
    | true => vc P (cfgOf cuts ords fn) c (retQ P fn R) { e := initE args 0, ge := [], ds := [] } w
    | false => False

end Go.Vc

/- Soundness of the generator, part A: what is known of a frame; operations without a choice. -/
namespace Go.Vc
open Go

theorem bq_iff {u t : Bool} : bq u t = true ↔ u = t := by cases u <;> cases t <;> simp [bq]
theorem bq_no {u t : Bool} : bq u t = false ↔ u ≠ t := by cases u <;> cases t <;> simp [bq]
theorem nbeq {a b : Nat} : Nat.beq a b = true ↔ a = b := by rw [Nat.beq_eq]
theorem nbeq_no {a b : Nat} : Nat.beq a b = false ↔ a ≠ b := by
  constructor
  · intro h e; rw [nbeq.2 e] at h; cases h
  · intro h; cases hb : Nat.beq a b with
    | false => rfl
    | true => exact absurd (nbeq.1 hb) h

/-- What the environment says is so. -/
structure Agree (N : Nat) (st : St) (a : Act) : Prop where
  size : a.tmps.size = N
  defers : a.defers = st.ds.map fun r => { target := .collected r, args := #[] }
  e : ∀ i x, lkE st.e i = some x → a.tmps.getD i undef = x.den
  g : ∀ i d, lkG st.ge i = some d → lkE st.e i = none → a.tmps.getD d.s undef = .bool d.t → a.tmps.getD i undef = d.x.den
  u : ∀ i d, lkG st.ge i = some d → lkE st.e i = none → a.tmps.getD d.s undef = .bool (!d.t) → a.tmps.getD i undef = undef

theorem hasC_spec {c : List (Nat × Bool)} {s : Nat} {t : Bool} (h : hasC c s t = true) : (s, t) ∈ c := by
  induction c with
  | nil => simp [hasC] at h
  | cons p r ih =>
    obtain ⟨j, u⟩ := p
    unfold hasC at h
    split at h
    · rename_i h1 h2
      rw [nbeq] at h1; rw [bq_iff] at h2
      subst h1; subst h2; simp
    · exact List.mem_cons_of_mem _ (ih h)

/-- The guards of c hold. -/
def Holds (c : List (Nat × Bool)) (a : Act) : Prop := ∀ p ∈ c, a.tmps.getD p.1 undef = .bool p.2

theorem Holds.nil (a : Act) : Holds [] a := fun _ h => by cases h

theorem lk_sound {N : Nat} {st : St} {a : Act} {c : List (Nat × Bool)} {i : Nat} {x : SV} (h : Agree N st a) (hc : Holds c a) (hl : lk st c i = some x) :
    a.tmps.getD i undef = x.den := by
  unfold lk at hl
  split at hl
  · rename_i y hy
    cases hl
    exact h.e i _ hy
  · rename_i hn
    split at hl
    · cases hl
    · rename_i g hg
      split at hl
      · rename_i hh
        cases hl
        exact h.g i g hg hn (hc _ (hasC_spec hh))
      · split at hl
        · rename_i u hu
          split at hl
          · rename_i hb
            cases hl
            rw [bq_iff] at hb
            subst hb
            exact h.g i g hg hn (h.e _ _ hu)
          · cases hl
        · cases hl

theorem ofConst_den (v : Value) : (ofConst v).den = v := by cases v <;> rfl

theorem ev_sound {N : Nat} {st : St} {a : Act} {c : List (Nat × Bool)} {o : Operand} {x : SV} (h : Agree N st a) (hc : Holds c a) (hl : ev st c o = some x) :
    a.eval o = x.den := by
  cases o with
  | tmp i => exact lk_sound h hc hl
  | const v => simp only [ev, Option.some.injEq] at hl; subst hl; exact (ofConst_den v).symm
  | global g => simp only [ev, Option.some.injEq] at hl; subst hl; rfl
  | func f => simp only [ev, Option.some.injEq] at hl; subst hl; rfl

theorem evs_sound {N : Nat} {st : St} {a : Act} {c : List (Nat × Bool)} (h : Agree N st a) (hc : Holds c a) : ∀ {l : List Operand} {xs : List SV}, evs st c l = some xs →
    l.map a.eval = dens xs := by
  intro l
  induction l with
  | nil => intro xs hl; simp only [evs, Option.some.injEq] at hl; subst hl; rfl
  | cons o r ih =>
    intro xs hl
    unfold evs at hl
    split at hl
    · rename_i y ys hy hys
      cases hl
      simp only [List.map_cons, dens, ev_sound h hc hy, ih hys]
    · cases hl

theorem noG_spec {ge : List Gd} {d i : Nat} {g : Gd} (h : noG ge d = true) (hg : lkG ge i = some g) : g.s ≠ d := by
  induction ge with
  | nil => simp [lkG] at hg
  | cons k r ih =>
    unfold noG at h
    split at h
    · cases h
    · rename_i hb
      unfold lkG at hg
      split at hg
      · cases hg; exact nbeq_no.1 hb
      · exact ih h hg

theorem getD_set {l : Array Value} {d : Nat} {v : Value} (hd : d < l.size) (i : Nat) : (l.setIfInBounds d v).getD i undef = if d = i then v else l.getD i undef := by
  simp only [Array.getD_eq_getD_getElem?, Array.getElem?_setIfInBounds]
  split
  · rename_i h; subst h; simp [hd]
  · rfl

theorem okDst_some {N : Nat} {st : St} {d : Nat} (h : okDst N st (some d) = true) : d < N ∧ noG st.ge d = true := by
  simp only [okDst] at h
  split at h
  · rename_i hb; exact ⟨Nat.lt_of_succ_le (Nat.le_of_ble_eq_true hb), h⟩
  · cases h

theorem Agree.put {N : Nat} {st : St} {a : Act} {d : Option Nat} {x : SV} (h : Agree N st a) (hd : okDst N st d = true) : Agree N (put st d x) (a.put d x.den) := by
  cases d with
  | none => exact h
  | some d =>
    obtain ⟨hlt, hn⟩ := okDst_some hd
    have hs : d < a.tmps.size := by rw [h.size]; exact hlt
    refine ⟨by simp [Act.put, h.size], h.defers, ?_, ?_, ?_⟩
    · intro i y hy
      show (a.tmps.setIfInBounds d x.den).getD i undef = _
      rw [getD_set hs]
      simp only [Vc.put, lkE] at hy
      split at hy
      · rename_i hb; cases hy; rw [if_pos (nbeq.1 hb)]
      · rename_i hb; rw [if_neg (nbeq_no.1 hb)]; exact h.e i y hy
    · intro i g hg hnone hb
      change (a.tmps.setIfInBounds d x.den).getD g.s undef = _ at hb
      show (a.tmps.setIfInBounds d x.den).getD i undef = _
      rw [getD_set hs, if_neg (fun e => noG_spec hn hg e.symm)] at hb
      simp only [Vc.put, lkE] at hnone
      split at hnone
      · cases hnone
      · rename_i hb2; rw [getD_set hs, if_neg (nbeq_no.1 hb2)]; exact h.g i g hg hnone hb
    · intro i g hg hnone hb
      change (a.tmps.setIfInBounds d x.den).getD g.s undef = _ at hb
      show (a.tmps.setIfInBounds d x.den).getD i undef = _
      rw [getD_set hs, if_neg (fun e => noG_spec hn hg e.symm)] at hb
      simp only [Vc.put, lkE] at hnone
      split at hnone
      · cases hnone
      · rename_i hb2; rw [getD_set hs, if_neg (nbeq_no.1 hb2)]; exact h.u i g hg hnone hb

theorem Agree.putG {N : Nat} {st : St} {a : Act} {d s : Nat} {t : Bool} {x : SV} {v : Value} (h : Agree N st a) (hd : okDst N st (some d) = true) (hsd : s ≠ d)
    (hv : a.tmps.getD s undef = .bool t → v = x.den) (hu : a.tmps.getD s undef = .bool (!t) → v = undef) : Agree N (putG st d s t x) (a.put (some d) v) := by
  obtain ⟨hlt, hn⟩ := okDst_some hd
  have hs : d < a.tmps.size := by rw [h.size]; exact hlt
  refine ⟨by simp [Act.put, h.size], h.defers, ?_, ?_, ?_⟩
  · intro i y hy
    show (a.tmps.setIfInBounds d v).getD i undef = _
    rw [getD_set hs]
    simp only [Vc.putG, lkE] at hy
    split at hy
    · cases hy
    · rename_i hb; rw [if_neg (nbeq_no.1 hb)]; exact h.e i y hy
  · intro i g hg hnone hb
    change (a.tmps.setIfInBounds d v).getD g.s undef = _ at hb
    show (a.tmps.setIfInBounds d v).getD i undef = _
    simp only [Vc.putG, lkG] at hg
    split at hg
    · rename_i hb2
      cases hg
      simp only at hb ⊢
      rw [getD_set hs, if_neg (Ne.symm hsd)] at hb
      rw [getD_set hs, if_pos (nbeq.1 hb2)]
      exact hv hb
    · rename_i hb2
      have hdi : d ≠ i := nbeq_no.1 hb2
      rw [getD_set hs, if_neg (fun e => noG_spec hn hg e.symm)] at hb
      rw [getD_set hs, if_neg hdi]
      simp only [Vc.putG, lkE, hb2] at hnone
      exact h.g i g hg hnone hb
  · intro i g hg hnone hb
    change (a.tmps.setIfInBounds d v).getD g.s undef = _ at hb
    show (a.tmps.setIfInBounds d v).getD i undef = _
    simp only [Vc.putG, lkG] at hg
    split at hg
    · rename_i hb2
      cases hg
      simp only at hb ⊢
      rw [getD_set hs, if_neg (Ne.symm hsd)] at hb
      rw [getD_set hs, if_pos (nbeq.1 hb2)]
      exact hu hb
    · rename_i hb2
      have hdi : d ≠ i := nbeq_no.1 hb2
      rw [getD_set hs, if_neg (fun e => noG_spec hn hg e.symm)] at hb
      rw [getD_set hs, if_neg hdi]
      simp only [Vc.putG, lkE, hb2] at hnone
      exact h.u i g hg hnone hb

theorem Agree.clear {N : Nat} {st : St} {a : Act} (h : Agree N st a) : Agree N { st with ge := [] } a :=
  ⟨h.size, h.defers, h.e, fun i d hd => by simp [lkG] at hd, fun i d hd => by simp [lkG] at hd⟩

theorem Agree.know {N : Nat} {st : St} {a : Act} {s : Nat} {u : Bool} (h : Agree N st a) (hu : a.tmps.getD s undef = .bool u) : Agree N (refine' st s u) a := by
  refine ⟨h.size, h.defers, ?_, ?_, ?_⟩
  · intro i y hy
    simp only [refine', lkE] at hy
    split at hy
    · rename_i hb; cases hy; rw [← nbeq.1 hb]; exact hu
    · exact h.e i y hy
  · intro i d hd hn hb
    simp only [refine', lkE] at hn
    split at hn
    · cases hn
    · exact h.g i d hd hn hb
  · intro i d hd hn hb
    simp only [refine', lkE] at hn
    split at hn
    · cases hn
    · exact h.u i d hd hn hb

/-! ### Small facts on what the words denote -/
theorem kid_inj {k k' : IntKind} (h : Nat.beq (kid k) (kid k') = true) : k = k' := by
  rw [nbeq] at h; cases k <;> cases k' <;> first | rfl | (simp [kid] at h)

theorem sEq_iff {x y : ByteArray} : sEq x y = true ↔ x = y := by
  unfold sEq
  have hl : ∀ b : ByteArray, b.toList = b.data.toList := ByteArray.toList_eq
  constructor
  · intro h
    have h1 := of_decide_eq_true (by simpa using h : decide (x.toList = y.toList) = true)
    rw [hl, hl] at h1
    cases x; cases y; simp only at h1; congr 1; exact Array.ext' h1
  · rintro rfl; simp

theorem Cnd.is_iff (c : Cnd) : (c.is true ↔ c.val = true) ∧ (c.is false ↔ c.val = false) := by
  induction c with
  | b x => simp [Cnd.is, Cnd.val]
  | lt x y => simp [Cnd.is, Cnd.val]
  | le x y => simp [Cnd.is, Cnd.val]
  | eq x y => simp [Cnd.is, Cnd.val]
  | same x y => cases x <;> cases y <;> simp [Cnd.is, Cnd.val]
  | seq x y =>
    refine ⟨by simp only [Cnd.is, Cnd.val, sEq_iff], ?_⟩
    simp only [Cnd.is, Cnd.val]
    cases h : sEq x y with
    | true => simp [sEq_iff.1 h]
    | false => simp only [ne_eq, iff_true]; intro e; rw [sEq_iff.2 e] at h; cases h
  | not c ih => simp only [Cnd.is, Cnd.val, ih.1, ih.2]; cases c.val <;> simp
  | and c d ihc ihd => simp only [Cnd.is, Cnd.val, ihc.1, ihc.2, ihd.1, ihd.2]; cases c.val <;> cases d.val <;> simp
  | or c d ihc ihd => simp only [Cnd.is, Cnd.val, ihc.1, ihc.2, ihd.1, ihd.2]; cases c.val <;> cases d.val <;> simp

theorem Cnd.is_of {c : Cnd} {u : Bool} (h : c.val = u) : c.is u := by
  cases u with
  | false => exact c.is_iff.2.2 h
  | true => exact c.is_iff.1.2 h

theorem mkB_den {x : SV} {b : Bool} (h : mkB x = some b) : x.den = .bool b := by
  unfold mkB at h; split at h <;> first | (cases h; rfl) | cases h

theorem cndOf_den {x : SV} {c : Cnd} (h : cndOf x = some c) : x.den = .bool c.val := by
  unfold cndOf at h; split at h <;> first | (cases h; rfl) | cases h

theorem notC_val (c : Cnd) : (notC c).val = !c.val := by cases c <;> simp [notC, Cnd.val]

theorem notB_den {x y : SV} (h : notB x = some y) : ∃ b, x.den = .bool b ∧ y.den = .bool (!b) := by
  unfold notB at h
  split at h
  · cases h; rename_i b; exact ⟨b, rfl, by cases b <;> rfl⟩
  · cases h; exact ⟨_, rfl, rfl⟩
  · cases h; exact ⟨_, rfl, by simp [SV.den, notC_val]⟩
  · cases h

theorem pickV_den {c : Cnd} {x y r : SV} (h : pickV c x y = some r) : r.den = if c.val then x.den else y.den := by
  unfold pickV at h
  split at h
  · split at h
    · rename_i b hb; cases h; rw [cndOf_den hb]; cases hc : c.val <;> simp [SV.den, Cnd.val, hc]
    · cases h
  · split at h
    · rename_i b hb; cases h; rw [cndOf_den hb]; cases hc : c.val <;> simp [SV.den, Cnd.val, notC_val, hc]
    · cases h
  all_goals first
    | (cases h; cases hc : c.val <;> simp [SV.den, Cnd.val, notC_val, hc]; done)
    | skip
  · split at h
    · rename_i hk; cases h; have := kid_inj hk; subst this; cases hc : c.val <;> simp [SV.den]
    · cases h
  · cases h

section
variable {P : Program} (w : World)

theorem arith_run {op : BinOp} {k : IntKind} {a b : Int} {r : SV} (t : TypeId) (h : arith op k a b = some r) : (binOp op t (.int k a) (.int k b)).run P w = .ok r.den w := by
  cases op <;> simp only [arith, Option.some.injEq, reduceCtorEq] at h <;> subst h <;>
    first
      | (simp [binOp, Op.intArith, Op.intCmp, SV.den, Cnd.val]; done)
      | (simp [binOp, Op.intArith, Op.intCmp, SV.den, Cnd.val, bne, BEq.beq]; done)
      | (simp [binOp, Op.intBits, bits, SV.den]; done)

theorem strOp_run {op : BinOp} {a b : ByteArray} {r : SV} (t : TypeId) (h : strOp op a b = some r) : (binOp op t (.string a) (.string b)).run P w = .ok r.den w := by
  cases op <;> simp only [strOp, Option.some.injEq, reduceCtorEq] at h <;> subst h <;> simp [binOp, Op.stringOp, sEq, sLt, SV.den, Cnd.val]

theorem posNat_spec {v : Value} {n : Nat} (h : posNat v = some n) : ∃ k, v = .int k (n : Int) := by
  unfold posNat at h
  split at h
  · cases h; exact ⟨_, rfl⟩
  · cases h

theorem byConst_run {op : BinOp} {k k' : IntKind} {a z : Int} {r : SV} (t : TypeId) (h : byConst op k a (.int k' z) = some r) (hk : shiftsB op = true ∨ k = k') :
    (binOp op t (.int k a) (.int k' z)).run P w = .ok r.den w := by
  unfold byConst at h
  split at h
  · rename_i n hn
    obtain ⟨_, hv⟩ := posNat_spec hn
    cases h; cases hv
    simp [binOp, Op.shift, shlI, SV.den]
    intro hneg; omega
  · rename_i n hn
    obtain ⟨_, hv⟩ := posNat_spec hn
    cases h; cases hv
    simp [binOp, Op.shift, shrI, SV.den]
    intro hneg; omega
  · rename_i n hn
    obtain ⟨_, hv⟩ := posNat_spec hn
    rcases hk with hk | rfl
    · cases hk
    cases h; cases hv
    have : ¬ ((n : Int) + 1 = 0) := by omega
    simp [binOp, Op.intDiv, quoI, SV.den, this]
  · rename_i n hn
    obtain ⟨_, hv⟩ := posNat_spec hn
    rcases hk with hk | rfl
    · cases hk
    cases h; cases hv
    have : ¬ ((n : Int) + 1 = 0) := by omega
    simp [binOp, Op.intDiv, remI, SV.den, this]
  · cases h

theorem sameK_spec {k k' : IntKind} {x : Option SV} {r : SV} (h : sameK k k' x = some r) : k = k' ∧ x = some r := by
  unfold sameK at h
  split at h
  · rename_i hk; exact ⟨kid_inj hk, h⟩
  · cases h

theorem binPure_run {op : BinOp} {y : Operand} {a b r : SV} (t : TypeId) {st : St} {c : List (Nat × Bool)} (hy : ev st c y = some b) (h : binPure op y a b = some r) :
    (binOp op t a.den b.den).run P w = .ok r.den w := by
  unfold binPure at h
  split at h
  · rename_i k x k' z
    split at h
    · rename_i cv
      have hb : cv = .int k' z := by
        simp only [ev, Option.some.injEq] at hy
        have := congrArg SV.den hy
        rw [ofConst_den] at this
        exact this
      subst hb
      split at h
      · rename_i r' hr'
        split at h
        · rename_i hs
          cases h
          exact byConst_run w t hr' (.inl hs)
        · obtain ⟨rfl, h2⟩ := sameK_spec h
          cases h2
          exact byConst_run w t hr' (.inr rfl)
      · obtain ⟨rfl, h2⟩ := sameK_spec h
        exact arith_run w t h2
    · obtain ⟨rfl, h2⟩ := sameK_spec h
      exact arith_run w t h2
  · exact strOp_run w t h
  · cases h

theorem binPure_guard {op : BinOp} {y : Operand} {a b r : SV} (h : binPure op y a b = some r) (t : TypeId) (x z : Operand) : eqGuard op t x z a.den b.den = pure () := by
  unfold binPure at h
  split at h
  · exact eqGuard_at_int _ _ _ _ _ _ _
  · exact eqGuard_at_string _ _ _ _ _ _
  · cases h

theorem negP_run {op : BinOp} {u : Cnd} {r : SV} (t : TypeId) {x y : Value} (heq : (Op.equal t x y).run P w = .ok u.val w)
    (he : (binOp .eql t x y).run P w = ((Op.equal t x y).run P w).andThen (fun u w => .ok (.bool u) w)) (hn : (binOp .neq t x y).run P w = ((Op.equal t x y).run P w).andThen (fun u w => .ok (.bool (!u)) w))
    (h : negP op u = some r) : (binOp op t x y).run P w = .ok r.den w := by
  cases op <;> simp only [negP, Option.some.injEq, reduceCtorEq] at h <;> subst h
  · rw [he, heq]; rfl
  · rw [hn, heq]; rfl

theorem equal_bool (t : TypeId) (a b : Bool) (h : P.underlying t = some .bool) : (Op.equal t (.bool a) (.bool b)).run P w = .ok (a == b) w := by
  have : ∀ d, (Op.equalIn (d + 1) t (.bool a) (.bool b)).run P w = .ok (a == b) w := fun d => by simp [Op.equalIn, run_underlying h]
  exact this 9999

theorem equal_ptr_nil (t e : TypeId) (a : Option Addr) (h : P.underlying t = some (.pointer e)) : (Op.equal t (.pointer a) (.pointer none)).run P w = .ok a.isNone w := by
  have : ∀ d, (Op.equalIn (d + 1) t (.pointer a) (.pointer none)).run P w = .ok a.isNone w := fun d => by cases a <;> simp [Op.equalIn, run_underlying h]
  exact this 9999

theorem equal_map_nil (t k e : TypeId) (a : Option Nat) (h : P.underlying t = some (.map k e)) : (Op.equal t (.map a) (.map none)).run P w = .ok a.isNone w := by
  have : ∀ d, (Op.equalIn (d + 1) t (.map a) (.map none)).run P w = .ok a.isNone w := fun d => by cases a <;> simp [Op.equalIn, run_underlying h]
  exact this 9999

theorem eqPure_run {op : BinOp} {a b r : SV} (t : TypeId) (x y : Operand) (h : eqPure (P.underlying t) op a b = some r) :
    eqGuard op t x y a.den b.den = pure () ∧ (binOp op t a.den b.den).run P w = .ok r.den w := by
  unfold eqPure at h
  split at h
  · rename_i hd
    split at h
    · rename_i p q hp hq
      rw [mkB_den hp, mkB_den hq]
      exact ⟨eqGuard_at_bool _ _ _ _ _ _, negP_run w t (u := .same p q) (equal_bool w t p q hd) (by simp only [binOp]; simp) (by simp only [binOp]; simp) h⟩
    · cases h
  · rename_i hd
    split at h
    · exact ⟨eqGuard_at_slice _ _ _ _ _ _ _ _, negP_run w t (u := .b _) (run_equal_slice_nil w t _ _ _ _ hd) (by simp only [SV.den, binOp]; simp) (by simp only [SV.den, binOp]; simp) h⟩
    · cases h
  · rename_i hd
    split at h
    · exact ⟨eqGuard_at_pointer _ _ _ _ _ _, negP_run w t (u := .b _) (equal_ptr_nil w t _ _ hd) (by simp only [SV.den, binOp]; simp) (by simp only [SV.den, binOp]; simp) h⟩
    · refine ⟨eqGuard_at_pointer _ _ _ _ _ _, ?_⟩
      split at h
      · cases h; exact negP_run w t (u := .b false) (equal_ptr_nil w t _ _ hd) (by simp only [SV.den, binOp]; simp) (by simp only [SV.den, binOp]; simp) (op := .eql) (r := .p (.b false)) rfl
      · cases h; exact negP_run w t (u := .b false) (equal_ptr_nil w t _ _ hd) (by simp only [SV.den, binOp]; simp) (by simp only [SV.den, binOp]; simp) (op := .neq) (r := .p (.not (.b false))) rfl
      · cases h
    · cases h
  · rename_i hd
    split at h
    · exact ⟨eqGuard_at_map _ _ _ _ _ _, negP_run w t (u := .b _) (equal_map_nil w t _ _ _ hd) (by simp only [SV.den, binOp]; simp) (by simp only [SV.den, binOp]; simp) h⟩
    · cases h
  · cases h
end

end Go.Vc

/- Soundness of the generator, part B: operations. -/
namespace Go.Vc
open Go

section
variable {P : Program} {N : Nat} {st : St} {a : Act} {c : List (Nat × Bool)}

theorem tyOf_spec {t : TypeId} {ty : Ty} (h : tyOf P t = some ty) :
    ∃ i d, P.info? t = some i ∧ i.zero = some ty.zero ∧ P.underlying t = some d ∧ i.size = ty.zero.cells.size ∧ ty.ls = leavesOf ty.zero.cells.toList ∧ ty.agg = isAggD (some d) ∧ ty.bytes = i.bytes := by
  unfold tyOf at h
  split at h
  · cases h
  · rename_i i hi
    split at h
    · cases h
    · rename_i z hz
      split at h
      · cases h
      · rename_i d hd
        split at h
        · rename_i hb
          cases h
          exact ⟨i, d, hi, hz, hd, by simpa using nbeq.1 hb, rfl, rfl, rfl⟩
        · cases h

theorem tyBig_spec {t : TypeId} {ty : Ty} (h : tyOf P t = some ty) : ∃ i d, P.info? t = some i ∧ P.underlying t = some d ∧ ty.n = i.size ∧ (ty.big = true → isAggD (some d) = true) ∧ ty.agg = isAggD (some d) := by
  unfold tyOf at h
  split at h
  · cases h
  · rename_i i hi
    split at h
    · cases h
    · rename_i z hz
      split at h
      · cases h
      · rename_i d hd
        split at h
        · cases h
          refine ⟨i, d, hi, hd, rfl, fun hb => ?_, rfl⟩
          simp only at hb
          cases d <;> first | rfl | (simp [bigD] at hb; done)
        · cases h

theorem length_leavesOf (l : List Value) : (leavesOf l).length = l.length := by induction l <;> simp_all [leavesOf]

theorem run_typeInfo {t : TypeId} {i : TypeInfo} (h : P.info? t = some i) (w : World) : (typeInfo t).run P w = .ok i w := by simp [typeInfo, h]
theorem run_sizeOf {t : TypeId} {i : TypeInfo} (h : P.info? t = some i) (w : World) : (sizeOf t).run P w = .ok i.size w := by simp [sizeOf, run_typeInfo h]
theorem run_zeroValue {t : TypeId} {i : TypeInfo} {z : Value} (h : P.info? t = some i) (hz : i.zero = some z) (w : World) : (zeroValue t).run P w = .ok z w := by
  simp [zeroValue, run_typeInfo h, hz]

theorem sizeT_spec {t : TypeId} {n : Nat} (h : sizeT P t = some n) (w : World) : (sizeOf t).run P w = .ok n w := by
  unfold sizeT at h
  split at h
  · rename_i i hi; cases h; exact run_sizeOf hi w
  · cases h

theorem run_isAgg {t : TypeId} {d : TypeDesc} (h : P.underlying t = some d) (w : World) : (isAgg t).run P w = .ok (isAggD (some d)) w := by
  simp only [isAgg, Sem.run_bind, run_underlying h, Result.andThen_ok]
  cases d <;> rfl

theorem nthV_eq (l : List Value) (i : Nat) : nthV l i = l[i]? := by
  induction l generalizing i with
  | nil => rfl
  | cons v r ih => cases i with
    | zero => rfl
    | succ i => simp [nthV, ih]

theorem extract_cut (cs : Array Value) (o n : Nat) : cs.extract o (o + n) = (cut cs.toList o n).toArray := by
  apply Array.ext'
  simp [cut, List.extract_eq_take_drop]

theorem partL_run {t : TypeId} {cs : Array Value} {o : Nat} {r : SV} (h : partL P t cs.toList o = some r) (w : World) : (part t cs o).run P w = .ok r.den w := by
  unfold partL at h
  split at h
  · cases h
  · rename_i ty hty
    obtain ⟨i, d, hi, hz, hd, hsz, hls, hag, _⟩ := tyOf_spec hty
    have hlen : ty.ls.length = i.size := by rw [hls, length_leavesOf]; simp [hsz]
    simp only [part, Sem.run_bind, run_isAgg hd, Result.andThen_ok, ← hag]
    split at h
    · rename_i hagg
      cases h
      simp [hagg, run_sizeOf hi, SV.den, ← hlen, extract_cut]
    · rename_i hagg
      rw [nthV_eq] at h
      split at h
      · rename_i v hb
        cases h
        have : cs[o]? = some v := by simpa using hb
        simp [hagg, this, SV.den]
      · cases h

theorem fieldAt?_spec {s : TypeId} {f : Nat} {o : Nat} {t : TypeId} (h : fieldAt? P s f = some (o, t)) :
    ∃ fs x, P.underlying s = some (.struct fs) ∧ fs[f]? = some x ∧ x.offset = o ∧ x.type = t := by
  unfold fieldAt? at h
  split at h
  · rename_i fs hfs
    split at h
    · rename_i x hx; cases h; exact ⟨fs, x, hfs, by simpa using hx, rfl, rfl⟩
    · cases h
  · cases h

theorem off_eq (o k : Nat) : off o k = o + k := by cases k <;> rfl
theorem off_add (b o k : Nat) : (⟨b, o, none⟩ : Addr).add k = ⟨b, off o k, none⟩ := by
  cases k with
  | zero => simp [Addr.add, off]
  | succ k => simp [Addr.add, off]

theorem run_fieldAt {s : TypeId} {f b q o : Nat} {t : TypeId} {n : Nat} (h : fieldAt? P s f = some (o, t)) (hn : sizeT P t = some (n + 1)) (w : World) :
    (Instr.fieldAt s (.pointer (some ⟨b, q, none⟩)) f).run P w = .ok (.pointer (some ⟨b, off q o, none⟩)) w := by
  obtain ⟨fs, x, hs, hx, rfl, rfl⟩ := fieldAt?_spec h
  simp [Instr.fieldAt, run_underlying hs, hx, Instr.sureAddr, fieldPlace, sizeT_spec hn, off_add]

theorem placesL_run : ∀ {fs : List Field} {ps : List (Nat × Nat)}, placesL P fs = some ps → ∀ w : World,
    (fs.mapM fun f => do pure (f.offset, ← sizeOf f.type) : Sem (List (Nat × Nat))).run P w = .ok ps w := by
  intro fs
  induction fs with
  | nil => intro ps h w; simp only [placesL, Option.some.injEq] at h; subst h; simp
  | cons f r ih =>
    intro ps h w
    unfold placesL at h
    split at h
    · rename_i n qs hn hqs
      cases h
      have h1 := ih hqs w
      simp only [List.mapM_cons, Sem.run_bind, sizeT_spec hn, Result.andThen_ok, Sem.run_pure]
      rw [h1]
      simp
    · cases h

theorem evParts_spec (h : Agree N st a) (hc : Holds c a) : ∀ {l : List (Nat × Operand)} {xs : List (Nat × Value)}, evParts st c l = some xs → l.map (fun (i, x) => (i, a.eval x)) = xs := by
  intro l
  induction l with
  | nil => intro xs hx; simp only [evParts, Option.some.injEq] at hx; subst hx; rfl
  | cons p r ih =>
    obtain ⟨i, o⟩ := p
    intro xs hx
    unfold evParts at hx
    split at hx
    · rename_i y ys hy hys
      cases hx
      simp only [List.map_cons, ev_sound h hc hy]
      rw [ih hys]
    · cases hx

theorem run_build_struct {t : TypeId} {ty : Ty} {fs : Array Field} {ps : List (Nat × Nat)} {parts : Array (Nat × Value)} {cs : Array Value} (hty : tyOf P t = some ty)
    (hd : P.underlying t = some (.struct fs)) (hp : placesL P fs.toList = some ps) (hf : Instr.fill (fun i => ps[i]?) ty.zero.cells parts.toList = some cs) (w : World) :
    (Instr.build t parts).run P w = .ok (.agg cs) w := by
  obtain ⟨i, d, hi, hz, _, _, _, _, _⟩ := tyOf_spec hty
  have hm : (fs.mapM fun f => do pure (f.offset, ← sizeOf f.type) : Sem (Array (Nat × Nat))).run P w = .ok ps.toArray w := by
    rw [Array.mapM_eq_mapM_toList]
    have := placesL_run hp w
    simp only [Sem.run_map, this, Result.andThen_ok]
  simp only [Instr.build, Sem.run_bind, run_zeroValue hi hz, run_underlying hd, Result.andThen_ok, hm]
  have e : (fun i : Nat => ps.toArray[i]?) = fun i : Nat => ps[i]? := by funext i; simp
  rw [e, hf]
  rfl

theorem run_build_array {t e : TypeId} {n k : Nat} {ty : Ty} {parts : Array (Nat × Value)} {cs : Array Value} (hty : tyOf P t = some ty)
    (hd : P.underlying t = some (.array k e)) (hn : sizeT P e = some n) (hf : Instr.fill (fun i => some (i * n, n)) ty.zero.cells parts.toList = some cs) (w : World) :
    (Instr.build t parts).run P w = .ok (.agg cs) w := by
  obtain ⟨i, d, hi, hz, _, _, _, _, _⟩ := tyOf_spec hty
  simp only [Instr.build, Sem.run_bind, run_zeroValue hi hz, run_underlying hd, Result.andThen_ok, sizeT_spec hn]
  rw [hf]
  rfl

theorem pickOp_run {co x y : Operand} {r : SV} (h : Agree N st a) (hc : Holds c a) (hp : pickOp st c co x y = some r) :
    ∃ b : Bool, a.eval co = .bool b ∧ (if b then a.eval x else a.eval y) = r.den := by
  unfold pickOp at hp
  split at hp
  · rename_i hco; exact ⟨true, ev_sound h hc hco, ev_sound h hc hp⟩
  · rename_i hco; exact ⟨false, ev_sound h hc hco, ev_sound h hc hp⟩
  · rename_i v _ _ hco
    split at hp
    · rename_i g hcg
      have hg : a.eval co = .bool g.val := by rw [ev_sound h hc hco, cndOf_den hcg]
      refine ⟨g.val, hg, ?_⟩
      have ha : ∀ u : Bool, g.val = u → Holds (match (generalizing := false) co with | .tmp s => (s, u) :: c | _ => c) a := by
        intro u hu
        clear hp
        cases co with
        | tmp s =>
          intro p hp'
          cases hp' with
          | head => exact hu ▸ hg
          | tail _ hm => exact hc p hm
        | _ => exact hc
      dsimp only at hp
      split at hp
      · rename_i x' y' hx hy
        rw [pickV_den hp]
        cases hgv : g.val with
        | true => exact ev_sound h (ha true hgv) hx
        | false => exact ev_sound h (ha false hgv) hy
      · cases hp
    · cases hp
  · cases hp

theorem convPure_run {src dst : TypeId} {x r : SV} {d : TypeDesc} (hs : P.underlying src = some d) (h : convPure P dst x = some r) (w : World) :
    (convert src dst x.den).run P w = .ok r.den w := by
  unfold convPure at h
  split at h
  · split at h
    · rename_i k hk
      cases h
      simp [convert, run_underlying hs, run_underlying hk, Conv.intToInt, SV.den]
    · cases h
  · split at h
    · rename_i hk
      cases h
      cases d <;> simp [convert, run_underlying hs, run_underlying hk, SV.den]
    · cases h
  · cases h

theorem lenPure_run {t ty : TypeId} {x r : SV} (h : lenPure P t x = some r) (w : World) : (Builtin.len_ #[t] ty #[x.den]).run P w = .ok r.den w := by
  unfold lenPure at h
  split at h
  · rename_i hd; cases h; simp [Builtin.len_, run_underlying hd, SV.den, goInt]
  · rename_i hd; cases h; simp [Builtin.len_, run_underlying hd, SV.den, goInt]
  · rename_i hd; cases h; simp [Builtin.len_, run_underlying hd, SV.den, goInt]
  · cases h

theorem unPure_run {u : UnOp} {x r : SV} (h : unPure u x = some r) (w : World) : (Op.unary u x.den).run P w = .ok r.den w := by
  cases u with
  | not =>
    obtain ⟨b, hb, hr⟩ := notB_den h
    simp [hb, hr, Op.unary]
  | neg =>
    dsimp only [unPure] at h
    split at h
    · cases h; simp [SV.den, Op.unary, Op.intArith]
    · cases h
  | xor =>
    dsimp only [unPure] at h
    split at h
    · cases h; simp [SV.den, Op.unary, Op.intBits, bits]
    · cases h
  | plus => cases h

theorem builtinPure_run {b : Builtin} {xs : List SV} {ts : List TypeId} {ty : TypeId} {cons : Array Bool} {r : SV} (h : builtinPure P b xs ts = some r) (w : World) :
    (builtin b ts.toArray ty cons (dens xs).toArray).run P w = .ok (.value r.den) w := by
  cases b with
  | len =>
    dsimp only [builtinPure] at h
    split at h
    · simp [builtin, dens, lenPure_run h]
    · cases h
  | cap =>
    dsimp only [builtinPure] at h
    split at h
    · split at h
      · rename_i hu
        cases h; simp [builtin, dens, Builtin.cap_, run_underlying hu, SV.den, goInt]
      · cases h
    · cases h
  | min =>
    dsimp only [builtinPure] at h
    split at h
    · cases h; simp [builtin, dens, Builtin.min_, Builtin.min2, SV.den, mmI]
    · cases h
  | max =>
    dsimp only [builtinPure] at h
    split at h
    · cases h; simp [builtin, dens, Builtin.max_, Builtin.max2, SV.den, mmI]
    · cases h
  | _ => cases h

/-! '==' at structs and arrays -/
def EqOk (P : Program) (E : TypeId → Value → Value → Option Cnd) (d : Nat) : Prop := ∀ t x y c, E t x y = some c → ∀ w : World, (Op.equalIn d t x y).run P w = .ok c.val w

theorem eqFs_run {E : TypeId → Value → Value → Option Cnd} {d : Nat} (hE : EqOk P E d) (xs ys : Array Value) : ∀ (fs : List Field) (c : Cnd), eqFs P E fs xs.toList ys.toList = some c → ∀ w : World,
    (Op.eqFields d xs ys fs).run P w = .ok c.val w := by
  intro fs
  induction fs with
  | nil => intro c h; cases h
  | cons f r ih =>
    intro c h w
    unfold eqFs at h
    split at h
    · rename_i a b hn ha hb
      have hn' : f.name ≠ "_" := by intro e; rw [e] at hn; simp at hn
      split at h
      · cases h
      · rename_i c1 hc1
        have h1 := hE _ _ _ _ hc1 w
        simp only [Op.eqFields, hn', ne_eq, not_false_eq_true, if_true, Sem.run_bind, partL_run ha, partL_run hb, Result.andThen_ok, h1, Sem.run_ite, Sem.run_pure]
        split at h
        · cases h
          cases hv : c.val <;> simp [Op.eqFields]
        · split at h
          · rename_i d' hd'
            cases h
            have h2 := ih _ hd' w
            cases hv : c1.val <;> simp [Cnd.val, hv, h2]
          · cases h
    · cases h

theorem eqEs_run {E : TypeId → Value → Value → Option Cnd} {d : Nat} (hE : EqOk P E d) (xs ys : Array Value) (e : TypeId) (s : Nat) : ∀ (n i : Nat) (c : Cnd), eqEs P E e s n i xs.toList ys.toList = some c → ∀ w : World,
    (Op.eqItems d e s xs ys (List.range' i n)).run P w = .ok c.val w := by
  intro n
  induction n with
  | zero => intro i c h; cases h
  | succ n ih =>
    intro i c h w
    unfold eqEs at h
    split at h
    · rename_i a b ha hb
      split at h
      · cases h
      · rename_i c1 hc1
        have h1 := hE _ _ _ _ hc1 w
        simp only [List.range'_succ, Op.eqItems, Sem.run_bind, partL_run ha, partL_run hb, Result.andThen_ok, h1, Sem.run_ite, Sem.run_pure]
        split at h
        · cases h
          cases hv : c.val <;> simp [Op.eqItems]
        · split at h
          · rename_i d' hd'
            cases h
            have h2 := ih _ _ hd' w
            cases hv : c1.val <;> simp [Cnd.val, hv, h2]
          · cases h
    · cases h

theorem EqOk_none (d : Nat) : EqOk P (eqV P []) d := by intro t x y c h; cases h

theorem eqV_run : ∀ (f : List Unit) (d : Nat), EqOk P (eqV P f) (d + f.length) := by
  intro f
  induction f with
  | nil => intro d; exact EqOk_none _
  | cons u f ih =>
    intro d t x y c h w
    have E := ih d
    show (Op.equalIn ((d + f.length) + 1) t x y).run P w = _
    unfold eqV at h
    split at h
    · rename_i hu; cases h; rw [run_equalIn_bool' w _ _ _ _ hu]; rfl
    · rename_i hu
      split at h
      · rename_i hk
        cases h
        have := kid_inj hk
        subst this
        rw [run_equalIn_int w _ _ _ _ _ _ hu]
        simp [Cnd.val, BEq.beq]
      · cases h
    · rename_i hu; cases h; rw [run_equalIn_string w _ _ _ _ hu]; rfl
    · rename_i fs xs ys hu
      split at h
      · cases h
      · rename_i hs
        have hf : P.fieldsOf t = fs := by simp [Program.fieldsOf, hu]
        rw [run_equalIn_agg w _ _ _ _ (by rw [hf]; exact hu) hs, hf]
        exact eqFs_run E xs ys _ _ h w
    · rename_i n e xs ys hu
      split at h
      · rename_i s hs
        unfold sizeT at hs
        split at hs
        · rename_i i hi
          cases hs
          rw [run_equalIn_array w _ xs ys hu hi, show P.cellsOf e = i.size from by simp [Program.cellsOf, hi], List.range_eq_range']
          exact eqEs_run E xs ys e _ _ _ _ h w
        · cases hs
      · cases h
    · cases h

theorem eqAgg_run {op : BinOp} {a b r : SV} (t : TypeId) (x y : Operand) (h : eqAgg P t op a b = some r) (w : World) :
    (eqGuard op t x y a.den b.den).run P w = .ok () w ∧ (binOp op t a.den b.den).run P w = .ok r.den w := by
  unfold eqAgg at h
  split at h
  · rename_i xs ys
    split at h
    · cases h
    · rename_i hg0
      have hg : P.eqGuardType P.depth t = false := by
        cases hq : P.eqGuardType P.depth t with
        | true => rw [hq] at hg0; cases hg0
        | false => rfl
      split at h
      · rename_i c hc
        have he : (Op.equalIn 10000 t (.agg xs) (.agg ys)).run P w = .ok c.val w := eqV_run [(), (), (), ()] 9996 t _ _ _ hc w
        refine ⟨run_eqGuard_agg w op t x y xs ys hg, ?_⟩
        cases op <;> simp only [negP, Option.some.injEq, reduceCtorEq] at h
        · cases h; show (binOp .eql t (.agg xs) (.agg ys)).run P w = _; rw [run_eql_struct, he]; rfl
        · cases h; show (binOp .neq t (.agg xs) (.agg ys)).run P w = _; rw [run_neq_struct, he]; rfl
      · cases h
  · cases h

/-- An operation without a choice: its value, in whatever world. -/
theorem pure_sound {o : Oper} {x : SV} (h : Agree N st a) (hc : Holds c a) (hp : pureOp P st c o.op = some x) (w : World) :
    (execOp a.eval o).run P w = .ok (.value x.den) w := by
  obtain ⟨dst, op, ty, pos, after, gd⟩ := o
  cases op with
  | move x =>
    dsimp only [pureOp] at hp
    simp [execOp, ev_sound h hc hp]
  | assign x =>
    dsimp only [pureOp] at hp
    simp [execOp, ev_sound h hc hp]
  | pick co x y =>
    dsimp only [pureOp] at hp
    obtain ⟨b, hb, hr⟩ := pickOp_run h hc hp
    simp [execOp, hb, asBool, hr]
  | binOp op t x y =>
    dsimp only [pureOp] at hp
    split at hp
    · rename_i p q hx hy
      split at hp
      · rename_i r hr
        cases hp
        simp only [execOp, Sem.run_bind, ev_sound h hc hx, ev_sound h hc hy, binPure_guard hr, Sem.run_pure, Result.andThen_ok, binPure_run w _ hy hr]
      · split at hp
        · rename_i r' hr'
          cases hp
          obtain ⟨h1, h2⟩ := eqPure_run w _ x y hr'
          simp only [execOp, Sem.run_bind, ev_sound h hc hx, ev_sound h hc hy]
          rw [h1]
          simp only [Sem.run_pure, Result.andThen_ok, h2]
        · obtain ⟨h1, h2⟩ := eqAgg_run t x y hp w
          simp only [execOp, Sem.run_bind, ev_sound h hc hx, ev_sound h hc hy, h1, Result.andThen_ok, h2, Sem.run_pure]
    · cases hp
  | unOp u t x =>
    dsimp only [pureOp] at hp
    split at hp
    · rename_i p hx
      simp only [execOp, ev_sound h hc hx, unPure_run hp w, Sem.run_bind, Result.andThen_ok, Sem.run_pure]
    · cases hp
  | convert src dst x =>
    dsimp only [pureOp] at hp
    split at hp
    · rename_i d p hs hx
      simp [execOp, ev_sound h hc hx, convPure_run hs hp w]
    · cases hp
  | extract t i =>
    dsimp only [pureOp] at hp
    split at hp
    · rename_i vs hx
      have := ev_sound h hc hx
      rw [nthV_eq] at hp
      split at hp
      · rename_i v hb
        cases hp
        have hb' : vs[i]? = some v := by simpa using hb
        simp [execOp, this, SV.den, Instr.extract, hb']
      · cases hp
    · cases hp
  | field s x f =>
    dsimp only [pureOp] at hp
    split at hp
    · rename_i o t cs hf hx
      have := ev_sound h hc hx
      obtain ⟨fs, f, hs, hff, rfl, rfl⟩ := fieldAt?_spec hf
      simp [execOp, this, SV.den, Instr.field, run_underlying hs, hff, asAgg, partL_run hp]
    · cases hp
  | fieldAddr s x f =>
    dsimp only [pureOp] at hp
    split at hp
    · rename_i o t b q hf hx
      have := ev_sound h hc hx
      split at hp
      · rename_i n hn
        cases hp
        simp [execOp, this, SV.den, run_fieldAt hf hn]
      · cases hp
    · cases hp
  | makeFunc fn A B =>
    dsimp only [pureOp] at hp
    split at hp
    · rename_i p q hx hy
      cases hp
      have h1 := evs_sound h hc hx
      have h2 := evs_sound h hc hy
      have e1 : A.map a.eval = (dens p).toArray := by apply Array.ext'; simpa using h1
      have e2 : B.map a.eval = (dens q).toArray := by apply Array.ext'; simpa using h2
      simp [execOp, Instr.makeFunc, e1, e2, SV.den]
    · cases hp
  | nilCheck x =>
    dsimp only [pureOp] at hp
    split at hp
    · rename_i b q hx
      cases hp
      have := ev_sound h hc hx
      simp [execOp, this, SV.den]
    · rename_i hx
      cases hp
      have := ev_sound h hc hx
      simp [execOp, this, SV.den]
    · rename_i hx
      cases hp
      have := ev_sound h hc hx
      simp [execOp, this, SV.den]
    · cases hp
  | call cl =>
    obtain ⟨callee, args, argTypes⟩ := cl
    dsimp only [pureOp] at hp
    split at hp
    · rename_i _ _ b xs hxs
      have e := evs_sound h hc hxs
      have e1 : args.map a.eval = (dens xs).toArray := by apply Array.ext'; simpa using e
      have := fun cons => builtinPure_run (ty := ty) (cons := cons) hp w
      rw [Array.toArray_toList] at this
      simp [execOp, resolve, invoke, e1, this]
    · cases hp
  | build t parts =>
    dsimp only [pureOp] at hp
    split at hp
    · rename_i ty' xs fs hty hxs hd
      split at hp
      · rename_i ps hps
        split at hp
        · rename_i cs hcs
          cases hp
          have e := evParts_spec h hc hxs
          have e1 : (parts.map fun (i, x) => (i, a.eval x)).toList = xs := by simpa using e
          have := run_build_struct (parts := parts.map fun (i, x) => (i, a.eval x)) hty hd hps (by rw [e1]; exact hcs) w
          simp only [execOp, Sem.run_bind, this, Result.andThen_ok, Sem.run_pure, SV.den]
        · cases hp
      · cases hp
    · rename_i ty' xs k e' hty hxs hd
      split at hp
      · rename_i n hn
        split at hp
        · rename_i cs hcs
          cases hp
          have e := evParts_spec h hc hxs
          have e1 : (parts.map fun (i, x) => (i, a.eval x)).toList = xs := by simpa using e
          have := run_build_array (parts := parts.map fun (i, x) => (i, a.eval x)) hty hd hn (by rw [e1]; exact hcs) w
          simp only [execOp, Sem.run_bind, this, Result.andThen_ok, Sem.run_pure, SV.den]
        · cases hp
      · cases hp
    · cases hp
  | _ => cases hp
end

end Go.Vc

/- Soundness of the generator, part C: operations that read, write, or may fail; calls. -/
namespace Go.Vc
open Go

section
variable {P : Program} {N : Nat} {st : St} {a : Act}

theorem den_v (x : Value) : (SV.v x).den = x := rfl
theorem den_b (x : Bool) : (SV.b x).den = .bool x := rfl
theorem den_loc (b o : Nat) : (SV.loc b o).den = .pointer (some ⟨b, o, none⟩) := rfl

theorem Ex_out {l : Leaf} {F : Value → Prop} (h : l.Ex F) : ∃ v, F v := by
  cases l with
  | int k => obtain ⟨n, h⟩ := h; exact ⟨_, h⟩
  | bool => obtain ⟨n, h⟩ := h; exact ⟨_, h⟩
  | str => obtain ⟨n, h⟩ := h; exact ⟨_, h⟩
  | slc => obtain ⟨p, n, c, h⟩ := h; exact ⟨_, h⟩
  | ptr => obtain ⟨n, h⟩ := h; exact ⟨_, h⟩
  | map => obtain ⟨n, h⟩ := h; exact ⟨_, h⟩
  | any => obtain ⟨n, h⟩ := h; exact ⟨_, h⟩

theorem ExL_out : ∀ {ls : List Leaf} {F : List Value → Prop}, ExL ls F → ∃ vs, vs.length = ls.length ∧ F vs := by
  intro ls
  induction ls with
  | nil => intro F h; exact ⟨[], rfl, h⟩
  | cons l r ih =>
    intro F h
    obtain ⟨v, hv⟩ := Ex_out h
    obtain ⟨vs, hl, hF⟩ := ih hv
    exact ⟨v :: vs, by simp [hl], hF⟩

theorem ofCells_true {vs : List Value} {x : SV} (h : ofCells true vs = some x) : x.den = .agg vs.toArray := by
  simp only [ofCells, Option.some.injEq] at h; subst h; rfl

theorem ofCells_false {vs : List Value} {x : SV} (h : ofCells false vs = some x) : vs = [x.den] := by
  unfold ofCells at h
  split at h
  · rename_i he; cases he
  · cases h; rfl
  · cases h

theorem ExT_out {t : Ty} {F : SV → Prop} (h : ExT t F) : ∃ x, F x := by
  unfold ExT at h
  split at h
  · obtain ⟨vs, _, h⟩ := h; exact ⟨_, h⟩
  · obtain ⟨vs, _, hv⟩ := ExL_out h
    split at hv
    · exact ⟨_, hv⟩
    · exact hv.elim

theorem ExTs_out : ∀ {ts : List (Option Ty)} {F : List SV → Prop}, ExTs ts F → ∃ xs, F xs := by
  intro ts
  induction ts with
  | nil => intro F h; exact ⟨[], h⟩
  | cons t r ih =>
    intro F h
    cases t with
    | none => exact h.elim
    | some t =>
      obtain ⟨x, hx⟩ := ExT_out h
      obtain ⟨xs, hxs⟩ := ih hx
      exact ⟨_, hxs⟩

theorem asPtr_out {x : SV} {F : Nat → Nat → Prop} (h : asPtr x F) : ∃ b o, x.den = .pointer (some ⟨b, o, none⟩) ∧ F b o := by
  unfold asPtr at h
  split at h
  · exact ⟨_, _, rfl, h⟩
  · exact ⟨_, _, rfl, h⟩
  · obtain ⟨b, o, rfl, h⟩ := h; exact ⟨b, o, rfl, h⟩
  · exact h.elim

theorem loadL_out : ∀ {ls : List Leaf} {b o j : Nat} {w : World} {F : List Value → Prop}, loadL ls b o j w F →
    ∃ vs, vs.length = ls.length ∧ (∀ k v, vs[k]? = some v → w.cell? ⟨b, off o (j + k), none⟩ = some v) ∧ F vs := by
  intro ls
  induction ls with
  | nil => intro b o j w F h; exact ⟨[], rfl, fun k v hk => by simp at hk, h⟩
  | cons l r ih =>
    intro b o j w F h
    obtain ⟨v, hv, hr⟩ := Ex_out h
    obtain ⟨vs, hl, hc, hF⟩ := ih hr
    refine ⟨v :: vs, by simp [hl], fun k u hk => ?_, hF⟩
    cases k with
    | zero => simp at hk; subst hk; simpa using hv
    | succ k => simp at hk; have := hc k u hk; rwa [show j + 1 + k = j + (k + 1) by omega] at this

theorem setCell_has {w : World} {a b : Addr} {u v : Value} (h : w.cell? a = some u) (hs : b.spot = none) : ∃ u', (w.setCell b v).cell? a = some u' := by
  obtain ⟨ab, ao, ag⟩ := a
  obtain ⟨bb, bo, bs⟩ := b
  simp only at hs
  subst hs
  unfold World.cell? World.setCell at *
  simp only [Array.getElem?_modify] at *
  by_cases hb : bb = ab
  · subst hb
    simp only [if_true]
    cases ho : w.heap[bb]? with
    | none => rw [ho] at h; cases h
    | some o =>
      rw [ho] at h
      cases o with
      | cells cs t fr =>
        simp only [Option.map_some] at h ⊢
        cases ag with
        | none =>
          have h' : cs[ao]? = some u := by simpa using h
          have hlt : ao < cs.size := (Array.getElem?_eq_some_iff.1 h').1
          have : ao < (cs.setIfInBounds bo v).size := by simpa using hlt
          refine ⟨(cs.setIfInBounds bo v)[ao], ?_⟩
          simp only [Option.isSome_none, Bool.false_eq_true, if_false]
          exact Array.getElem?_eq_getElem this
        | some s => simp at h
      | _ => simp at h
  · rw [if_neg hb]; exact ⟨u, h⟩

theorem setCell_frozen {w : World} {a b : Addr} {v : Value} : (w.setCell b v).frozen? a = w.frozen? a := by
  obtain ⟨ab, ao, ag⟩ := a
  obtain ⟨bb, bo, bs⟩ := b
  unfold World.frozen? World.setCell
  simp only [Array.getElem?_modify]
  by_cases hb : bb = ab
  · subst hb
    simp only [if_true]
    cases ho : w.heap[bb]? with
    | none => rfl
    | some o => cases o <;> simp
  · rw [if_neg hb]

theorem storeL_out : ∀ {vs : List Value} {b o j : Nat} {w w0 : World} {X : Prop}, (∀ a u, w0.cell? a = some u → ∃ u', w.cell? a = some u') → (∀ a, w.frozen? a = w0.frozen? a) → storeL vs b o j w0 X →
    (storeCells ⟨b, o, none⟩ vs j).run P w = .ok () (setL vs b o j w) ∧ X := by
  intro vs
  induction vs with
  | nil => intro b o j w w0 X _ _ h; exact ⟨by simp [storeCells, setL], h⟩
  | cons v r ih =>
    intro b o j w w0 X hc hf h
    unfold storeL at h
    split at h
    · rename_i h1
      obtain ⟨⟨u, hu⟩, hfr, hr⟩ := h
      obtain ⟨u', hu'⟩ := hc _ _ hu
      obtain ⟨hrun, hX⟩ := ih (w := w.setCell ⟨b, off o j, none⟩ v) (fun a x hx => by obtain ⟨x', hx'⟩ := hc a x hx; exact setCell_has hx' rfl) (fun a => by rw [setCell_frozen, hf a]) hr
      refine ⟨?_, hX⟩
      simp only [storeCells, Sem.run_bind, off_add, setL]
      rw [run_store P w _ v _ h1, hu']
      simp only [hf, hfr, Bool.false_eq_true, if_false, Result.andThen_ok]
      exact hrun
    · exact h.elim

theorem run_loadVar {t : TypeId} {ty : Ty} {b o : Nat} {vs : List Value} {x : SV} (hty : tyOf P t = some ty) (hl : vs.length = ty.ls.length) (w : World)
    (hc : ∀ k v, vs[k]? = some v → w.cell? ⟨b, off o (0 + k), none⟩ = some v) (hx : ofCells ty.agg vs = some x) :
    (loadVar t ⟨b, o, none⟩).run P w = .ok x.den w := by
  obtain ⟨i, d, hi, hz, hd, hsz, hls, hag, _⟩ := tyOf_spec hty
  have hlen : vs.length = i.size := by rw [hl, hls, length_leavesOf]; simp [hsz]
  simp only [loadVar, Sem.run_bind, run_isAgg hd, Result.andThen_ok, ← hag]
  cases hagg : ty.agg with
  | true =>
    rw [hagg] at hx
    have := run_loadCells_list (P := P) w ⟨b, o, none⟩ vs (fun j v hj => by rw [off_add]; simpa using hc j v hj)
    simp only [if_true, Sem.run_bind, run_sizeOf hi, Result.andThen_ok, ← hlen, this, Sem.run_pure]
    rw [ofCells_true hx]
  | false =>
    rw [hagg] at hx
    have hvs := ofCells_false hx
    have h0 := hc 0 x.den (by rw [hvs]; rfl)
    simp only [Nat.add_zero, off] at h0
    simp [h0]

theorem run_loadBig {t : TypeId} {ty : Ty} {b o : Nat} {vs : Array Value} (hty : tyOf P t = some ty) (hb : ty.big = true) (hl : vs.size = ty.n) (w : World)
    (hc : CellsAt w b o vs) : (loadVar t ⟨b, o, none⟩).run P w = .ok (.agg vs) w := by
  obtain ⟨i, d, hi, hd, hn, hag, _⟩ := tyBig_spec hty
  have := run_loadCells_list (P := P) w ⟨b, o, none⟩ vs.toList (fun j v hj => by rw [off_add, off_eq]; exact hc j v (by simpa using hj))
  have hlen : vs.toList.length = i.size := by simp [hl, hn]
  rw [hlen] at this
  simp only [loadVar, Sem.run_bind, run_isAgg hd, Result.andThen_ok, hag hb, if_true, run_sizeOf hi, this, Sem.run_pure]

theorem add_scale (b o k s : Nat) : (⟨b, o, none⟩ : Addr).add (k * s) = ⟨b, o + scale k s, none⟩ := by
  have e : scale k s = k * s := by
    unfold scale
    split
    · rename_i h; rw [nbeq.1 h]; omega
    · rfl
  rw [e, Addr.add_lit]

/-- The outcome of an operation that is no call of a Go function. -/
def Done (P : Program) (a : Act) (o : Oper) (w : World) (x : SV) (w' : World) : Prop :=
  (execOp a.eval o).run P w = .ok (.value x.den) w' ∨ ((execOp a.eval o).run P w = .ok .skip w' ∧ x = .v undef)

theorem run_sliceBounds (isSlice : Bool) (len cap : Nat) (lo hi mx : Option Value) (l h m : Int) (w : World)
    (hm : (mx = none ∧ m = cap) ∨ ∃ k, mx = some (.int k m) ∧ 0 ≤ m ∧ m ≤ cap)
    (hh : (hi = none ∧ mx = none ∧ h = len) ∨ ∃ k, hi = some (.int k h) ∧ 0 ≤ h ∧ h ≤ m)
    (hl : (lo = none ∧ l = 0) ∨ ∃ k, lo = some (.int k l) ∧ 0 ≤ l ∧ l ≤ h) :
    (Instr.sliceBounds isSlice len cap lo hi mx).run P w = .ok (l.toNat, h.toNat, m.toNat) w := by
  rcases hm with ⟨rfl, rfl⟩ | ⟨k1, rfl, m0, m1⟩ <;> rcases hh with ⟨rfl, hmx, rfl⟩ | ⟨k2, rfl, h0, h1⟩ <;> rcases hl with ⟨rfl, rfl⟩ | ⟨k3, rfl, l0, l1⟩
  all_goals first
    | (cases hmx; done)
    | skip
  all_goals try (have m0' : 0 ≤ m := by omega)
  all_goals (simp [Instr.sliceBounds, Instr.sliceBound, asIntOf, Int.toNat_of_nonneg, *] <;> try omega)
  all_goals (have a1 : max h 0 = h := by omega)
  all_goals (have a2 : max m 0 = m := by omega)
  all_goals simp [a1, a2, h1, l1]

theorem byte_at {s : ByteArray} {i : Nat} (h : i < s.size) : s[i]? = some (s.data.toList.getD i 0) := by
  have h' : i < s.data.size := h
  rw [show s[i]? = some s[i] from by simp [h]]
  congr 1
  show s.data[i] = _
  simp [List.getD, Array.getElem?_eq_getElem h']

theorem BytesAt_run {src dst e : TypeId} {p : Option Addr} {n c : Nat} {l : List UInt8} {w : World} (hs : P.underlying src = some (.slice e)) (he : P.underlying e = some (.int .u8))
    (hd : P.underlying dst = some .string) (hb : BytesAt w p n l) : (convert src dst (.slice p n c)).run P w = .ok (.string ⟨l.toArray⟩) w := by
  obtain ⟨hl, hc⟩ := hb
  subst hl
  cases p with
  | none =>
    have hz : l = [] := by
      cases l with
      | nil => rfl
      | cons x r => obtain ⟨b, o, e, _⟩ := hc (by simp); cases e
    subst hz
    show (convert src dst (.slice none 0 c)).run P w = _
    rw [run_convert_bytes_string w src dst e none 0 c hs he hd]
    simp [Conv.bytesToString]
    rfl
  | some ad =>
    refine run_convert_bytes_back w src dst e ad c l hs he hd fun j hj => ?_
    obtain ⟨b, o, e', hcell⟩ := hc (by omega)
    cases e'
    rw [Addr.add_lit]
    exact hcell j hj

theorem Same.refl (w : World) : Same w w := fun _ _ => rfl
theorem Same.cell {w w1 : World} (h : Same w w1) {ad : Addr} {v : Value} (hc : w.cell? ad = some v) : w1.cell? ad = some v := by
  have hlt : ad.block < w.heap.size := World.block_lt_of_cell? w _ hc
  rw [← hc]
  unfold World.cell?
  rw [h _ hlt]

theorem cell_at {w w1 : World} {b o : Nat} {v : Value} (h : b < w.heap.size → w1.heap[b]? = w.heap[b]?) (hc : w.cell? ⟨b, o, none⟩ = some v) : w1.cell? ⟨b, o, none⟩ = some v := by
  have hlt : b < w.heap.size := World.block_lt_of_cell? w _ hc
  rw [← hc]
  unfold World.cell?
  dsimp only
  rw [h hlt]

theorem loadT_out {t : TypeId} {ty : Ty} {b o : Nat} {w : World} {F : SV → Prop} (hty : tyOf P t = some ty) (h : loadT ty b o w F) :
    ∃ r, F r ∧ ∀ w1, (b < w.heap.size → w1.heap[b]? = w.heap[b]?) → (loadVar t ⟨b, o, none⟩).run P w1 = .ok r.den w1 := by
  unfold loadT at h
  split at h
  · rename_i hb
    obtain ⟨vs, hl, hc, h⟩ := h
    exact ⟨_, h, fun w1 hs => run_loadBig hty hb hl w1 fun k v hk => cell_at hs (hc k v hk)⟩
  · split at h
    · rename_i hagg hz
      obtain ⟨v, hc, h⟩ := h
      refine ⟨_, h, fun w1 hs => ?_⟩
      obtain ⟨i, d, hi, hz', hd, hsz, hls, hag, _⟩ := tyOf_spec hty
      have hl : [v].length = ty.ls.length := by rw [hls, hz]; rfl
      exact run_loadVar (x := .v v) hty hl w1 (fun k u hk => by
        cases k with
        | zero => cases hk; exact cell_at hs hc
        | succ k => simp at hk) (by rw [hagg]; rfl)
    · obtain ⟨vs, hl, hc, h⟩ := loadL_out h
      split at h
      · rename_i r hr
        exact ⟨r, h, fun w1 hs => run_loadVar hty hl w1 (fun k v hk => cell_at hs (hc k v hk)) hr⟩
      · exact h.elim

theorem storeBig {b o : Nat} : ∀ (l : List Value) (j : Nat) (w w0 : World), (∀ a u, w0.cell? a = some u → ∃ u', w.cell? a = some u') → (∀ a, w.frozen? a = w0.frozen? a) →
    (∀ k v, l[k]? = some v → v.oneCell' = true ∧ (∃ u, w0.cell? ⟨b, o + (j + k), none⟩ = some u) ∧ w0.frozen? ⟨b, o + (j + k), none⟩ = false) → (storeCells ⟨b, o, none⟩ l j).run P w = .ok () (setL l b o j w) := by
  intro l
  induction l with
  | nil => intro j w w0 _ _ _; simp [storeCells, setL]
  | cons v r ih =>
    intro j w w0 hc hf h
    obtain ⟨h1, ⟨u, hu⟩, hfr⟩ := h 0 v rfl
    rw [Nat.add_zero, ← off_eq] at hu hfr
    obtain ⟨u', hu'⟩ := hc _ _ hu
    have := ih (j + 1) (w.setCell ⟨b, off o j, none⟩ v) w0 (fun a x hx => by obtain ⟨x', hx'⟩ := hc a x hx; exact setCell_has hx' rfl) (fun a => by rw [setCell_frozen, hf a])
      (fun k x hk => by have := h (k + 1) x (by simpa using hk); rwa [show j + (k + 1) = j + 1 + k by omega] at this)
    simp only [storeCells, Sem.run_bind, off_add, setL]
    rw [run_store P w _ v _ h1, hu']
    simp only [hf, hfr, Bool.false_eq_true, if_false, Result.andThen_ok]
    exact this

theorem pickL_out : ∀ {ls : List Leaf} {vs : Array Value} {o j : Nat} {F : List Value → Prop}, pickL ls vs o j F →
    ∃ xs, xs.length = ls.length ∧ (∀ k v, xs[k]? = some v → vs[o + (j + k)]? = some v) ∧ F xs := by
  intro ls
  induction ls with
  | nil => intro vs o j F h; exact ⟨[], rfl, fun k v hk => by simp at hk, h⟩
  | cons l r ih =>
    intro vs o j F h
    obtain ⟨v, hv, hr⟩ := Ex_out h
    obtain ⟨xs, hl, hc, hF⟩ := ih hr
    refine ⟨v :: xs, by simp [hl], fun k u hk => ?_, hF⟩
    cases k with
    | zero => simp at hk; subst hk; rw [off_eq] at hv; simpa using hv
    | succ k => simp at hk; have := hc k u hk; rwa [show j + 1 + k = j + (k + 1) by omega] at this

theorem pickT_out {t : TypeId} {ty : Ty} {vs : Array Value} {o : Nat} {F : SV → Prop} (hty : tyOf P t = some ty) (h : pickT ty vs o F) :
    ∃ r, F r ∧ ∀ w, (part t vs o).run P w = .ok r.den w := by
  obtain ⟨i, d, hi, hd, hn, hbg, hag⟩ := tyBig_spec hty
  obtain ⟨i', d', hi', hz, hd', hsz, hls, hag', _⟩ := tyOf_spec hty
  have hii : i' = i := by rw [hi] at hi'; cases hi'; rfl
  subst hii
  have hlen : ty.ls.length = i'.size := by rw [hls, length_leavesOf]; simp [hsz]
  unfold pickT at h
  split at h
  · rename_i hb
    exact ⟨_, h, fun w => by simp only [part, Sem.run_bind, run_isAgg hd, Result.andThen_ok, hbg hb, if_true, run_sizeOf hi, Sem.run_pure, hn, SV.den]⟩
  · obtain ⟨xs, hl, hc, h⟩ := pickL_out h
    split at h
    · rename_i r hr
      refine ⟨r, h, fun w => ?_⟩
      simp only [part, Sem.run_bind, run_isAgg hd, Result.andThen_ok, ← hag]
      cases hagg : ty.agg with
      | true =>
        rw [hagg] at hr
        rw [ofCells_true hr]
        have : vs.extract o (o + i'.size) = xs.toArray := by
          apply Array.ext'
          rw [extract_cut]
          simp only [cut]
          apply List.ext_getElem?
          intro k
          rw [List.getElem?_take]
          split
          · rename_i hk
            have hk' : k < xs.length := by omega
            have := hc k xs[k] (by simp [hk'])
            rw [Nat.zero_add] at this
            rw [List.getElem?_drop, Array.getElem?_toList, this]
            simp [hk']
          · rw [List.getElem?_eq_none (by omega)]
        simp [run_sizeOf hi, this]
      | false =>
        rw [hagg] at hr
        have hx := ofCells_false hr
        have := hc 0 r.den (by rw [hx]; rfl)
        simp at this
        simp [this]
    · exact h.elim

theorem finQ {o : Oper} {w : World} {F : SV → World → Prop} {x : SV} (hr : ∀ w1, (readsOp o.op = true → Same w w1) → (execOp a.eval o).run P w1 = .ok (.value x.den) w1) (hv : F x w) :
    ∃ x w', Done P a o w x w' ∧ F x w' ∧ (quietOp P o.op = true → w' = w ∧ ∀ w1, (readsOp o.op = true → Same w w1) → (execOp a.eval o).run P w1 = .ok (.value x.den) w1) :=
  ⟨x, w, .inl (hr w fun _ => Same.refl w), hv, fun _ => ⟨rfl, hr⟩⟩

theorem finN {o : Oper} {w w' : World} {F : SV → World → Prop} {x : SV} (hr : (execOp a.eval o).run P w = .ok (.value x.den) w') (hv : F x w') (hq : quietOp P o.op = false) :
    ∃ x w', Done P a o w x w' ∧ F x w' ∧ (quietOp P o.op = true → w' = w ∧ ∀ w1, (readsOp o.op = true → Same w w1) → (execOp a.eval o).run P w1 = .ok (.value x.den) w1) :=
  ⟨x, w', .inl hr, hv, fun h => by rw [hq] at h; cases h⟩

theorem finS {o : Oper} {w w' : World} {F : SV → World → Prop} (hr : (execOp a.eval o).run P w = .ok .skip w') (hv : F (.v undef) w') (hq : quietOp P o.op = false) :
    ∃ x w', Done P a o w x w' ∧ F x w' ∧ (quietOp P o.op = true → w' = w ∧ ∀ w1, (readsOp o.op = true → Same w w1) → (execOp a.eval o).run P w1 = .ok (.value x.den) w1) :=
  ⟨.v undef, w', .inr ⟨hr, rfl⟩, hv, fun h => by rw [hq] at h; cases h⟩

theorem val_sound {o : Oper} {w : World} {F : SV → World → Prop} (h : Agree N st a) (hv : valOp P st o w F) :
    ∃ x w', Done P a o w x w' ∧ F x w' ∧ (quietOp P o.op = true → w' = w ∧ ∀ w1, (readsOp o.op = true → Same w w1) → (execOp a.eval o).run P w1 = .ok (.value x.den) w1) := by
  unfold valOp at hv
  split at hv
  · rename_i x hx
    exact finQ (fun w1 _ => pure_sound h (.nil a) hx w1) hv
  rename_i hnp
  clear hnp
  obtain ⟨dst, op, oty, pos, after, gd⟩ := o
  cases op with
  | alloc t =>
    dsimp only at hv
    split at hv
    · rename_i ty hty
      obtain ⟨i, d, hi, hz, _⟩ := tyOf_spec hty
      have hze : zeroA P t = ty.zero.cells := by unfold zeroA; rw [hty]
      rw [hze] at hv
      split at hv
      all_goals
        refine finN ?_ (hv _ _ ⟨rfl, rfl⟩) (by simp [quietOp])
        simp [execOp, Instr.alloc, run_zeroValue hi hz, newVar, newRow, den_v, den_b, den_loc]
    · exact hv.elim
  | box t x =>
    dsimp only at hv
    split at hv
    · rename_i y hx
      refine finN ?_ (hv _ _ ⟨rfl, rfl⟩) (by simp [quietOp])
      simp [execOp, Instr.box, ev_sound h (.nil a) hx, newVar, newRow, den_v, den_b, den_loc]
    · exact hv.elim
  | load t x =>
    dsimp only at hv
    split at hv
    · rename_i y ty hx hty
      obtain ⟨b, o, hp, hv⟩ := asPtr_out hv
      obtain ⟨r, hv, hr⟩ := loadT_out hty hv
      refine finQ (fun w1 hs => ?_) hv
      simp [execOp, Instr.loadAt, ev_sound h (.nil a) hx, hp, Instr.sureAddr, hr w1 (fun hb => hs rfl b hb)]
    · exact hv.elim
  | store t x y =>
    dsimp only at hv
    split at hv
    · rename_i p v n hx hy hn
      split at hv
      · split at hv
        · rename_i vs
          obtain ⟨hsz, hv⟩ := hv
          obtain ⟨b, o, hp, hcp, hF⟩ := asPtr_out hv
          refine finS ?_ (hF _ rfl) (by simp [quietOp])
          have hrun := storeBig (P := P) (b := b) (o := o) vs.toList 0 w w (fun a u h => ⟨u, h⟩) (fun _ => rfl) (fun k v hk => by rw [Nat.zero_add]; exact hcp k v (by simpa using hk))
          have hs : (Value.agg vs).cells.size = n := hsz
          have hcl : (Value.agg vs).cells = vs := rfl
          simp [execOp, Instr.storeAt, ev_sound h (.nil a) hx, ev_sound h (.nil a) hy, hp, Instr.sureAddr, storeVar, sizeT_spec hn, hcl, hsz, den_v, hrun]
        · exact hv.elim
      split at hv
      · rename_i hsz
        obtain ⟨b, o, hp, hv⟩ := asPtr_out hv
        obtain ⟨hw', hF⟩ := storeL_out (P := P) (w := w) (fun a u h => ⟨u, h⟩) (fun _ => rfl) hv
        refine finS ?_ (hF _ rfl) (by simp [quietOp])
        have hs : v.den.cells.size = n := by have := nbeq.1 hsz; simp at this; exact this.symm
        simp [execOp, Instr.storeAt, ev_sound h (.nil a) hx, ev_sound h (.nil a) hy, hp, Instr.sureAddr, storeVar, sizeT_spec hn, hs, hw']
      · exact hv.elim
    · exact hv.elim
  | nilCheck x =>
    dsimp only at hv
    split at hv
    · rename_i p hx
      obtain ⟨b, o, rfl, hv⟩ := hv
      refine finQ (fun w1 _ => ?_) hv
      have := ev_sound h (.nil a) hx
      simp [execOp, this, den_v, den_b, den_loc]
    · exact hv.elim
  | fieldAddr s x f =>
    dsimp only at hv
    split at hv
    · rename_i k t y hf hx
      split at hv
      · rename_i n hn
        obtain ⟨b, o, hp, hv⟩ := asPtr_out hv
        refine finQ (fun w1 _ => ?_) hv
        simp [execOp, ev_sound h (.nil a) hx, hp, run_fieldAt hf hn, den_v, den_b, den_loc]
      · exact hv.elim
    · exact hv.elim
  | indexAddr t x i =>
    dsimp only at hv
    split at hv
    · rename_i p n c k i e hx hi hu
      split at hv
      · rename_i s hs
        obtain ⟨b, o, rfl, h0, h1, hv⟩ := hv
        refine finQ (fun w1 _ => ?_) hv
        have e1 := ev_sound h (.nil a) hx
        have e2 := ev_sound h (.nil a) hi
        simp [execOp, e1, e2, den_v, den_b, den_loc, Instr.indexAt, asIntOf, run_underlying hu, h0, h1, sizeT_spec hs, add_scale]
      · exact hv.elim
    · rename_i y k i n e hx hi hu
      split at hv
      · rename_i s hs
        obtain ⟨b, o, hp, h0, h1, hv⟩ := asPtr_out hv
        refine finQ (fun w1 _ => ?_) hv
        have e1 := ev_sound h (.nil a) hx
        have e2 := ev_sound h (.nil a) hi
        rw [hp] at e1
        simp [execOp, e1, e2, den_v, den_b, den_loc, Instr.indexAt, asIntOf, run_underlying hu, h0, h1, sizeT_spec hs, add_scale, Instr.sureAddr]
      · exact hv.elim
    · exact hv.elim
  | index t x i =>
    dsimp only at hv
    split at hv
    · rename_i vs k i n e hx hi hu
      split at hv
      · rename_i ty hty
        obtain ⟨h0, h1, hv⟩ := hv
        obtain ⟨r, hv, hr⟩ := pickT_out hty hv
        refine finQ (fun w1 _ => ?_) hv
        have e1 := ev_sound h (.nil a) hx
        have e2 := ev_sound h (.nil a) hi
        obtain ⟨i', d, hi', hd, hn, _, _⟩ := tyBig_spec hty
        have esc : scale i.toNat ty.n = i.toNat * i'.size := by
          rw [← hn]
          unfold scale; split
          · rename_i hb; rw [nbeq.1 hb]; omega
          · rfl
        rw [esc] at hr
        simp [execOp, e1, e2, den_v, den_b, den_loc, Instr.index, asIntOf, run_underlying hu, h0, h1, run_sizeOf hi', hr]
      · exact hv.elim
    · rename_i s k i hx hi hu
      obtain ⟨h0, h1, hv⟩ := hv
      refine finQ (fun w1 _ => ?_) hv
      have e1 := ev_sound h (.nil a) hx
      have e2 := ev_sound h (.nil a) hi
      have e3 : s[i.toNat]? = some (s.data.toList.getD i.toNat 0) := byte_at (by omega)
      simp [execOp, e1, e2, den_v, den_b, den_loc, Instr.index, asIntOf, run_underlying hu, h0, e3, bAt]
    · exact hv.elim
  | slice t x lo hi mx =>
    dsimp only at hv
    split at hv
    · rename_i s hx hu
      have e1 := ev_sound h (.nil a) hx
      split at hv
      · exact hv.elim
      · have run : ∀ (l hh : Int), ((lo.map a.eval = none ∧ l = 0) ∨ ∃ k, lo.map a.eval = some (.int k l) ∧ 0 ≤ l ∧ l ≤ hh) →
            ((hi.map a.eval = none ∧ hh = s.size) ∨ ∃ k, hi.map a.eval = some (.int k hh) ∧ 0 ≤ hh ∧ hh ≤ (s.size : Int)) → ∀ w1 : World,
            (execOp a.eval { dst := dst, op := .slice t x lo hi none, type := oty, pos := pos, after := after, guard := gd }).run P w1 = .ok (.value (.string (s.extract l.toNat hh.toNat))) w1 := by
          intro l hh hl hh' w1
          have b := run_sliceBounds (P := P) false s.size s.size (lo.map a.eval) (hi.map a.eval) none l hh s.size w1 (.inl ⟨rfl, rfl⟩)
            (by rcases hh' with ⟨q1, q2⟩ | q
                · exact .inl ⟨q1, rfl, q2⟩
                · exact .inr q) hl
          simp [execOp, e1, den_v, Instr.sliceAt, Instr.slice, run_underlying hu, b]
        split at hv
        · refine finQ (x := .v (.string s)) (fun w1 _ => ?_) hv
          have := run 0 s.size (.inl ⟨rfl, rfl⟩) (.inl ⟨rfl, rfl⟩) w1
          rw [this]
          simp [den_v]
        · rename_i lo' 
          split at hv
          · rename_i k l hl
            obtain ⟨h0, h1, hv⟩ := hv
            exact finQ (x := .v (.string _)) (fun w1 _ => run l s.size (.inr ⟨k, by simp [ev_sound h (.nil a) hl, den_v], h0, h1⟩) (.inl ⟨rfl, rfl⟩) w1) (by simpa using hv)
          · exact hv.elim
        · rename_i hi'
          split at hv
          · rename_i k hh hl
            obtain ⟨h0, h1, hv⟩ := hv
            exact finQ (x := .v (.string _)) (fun w1 _ => run 0 hh (.inl ⟨rfl, rfl⟩) (.inr ⟨k, by simp [ev_sound h (.nil a) hl, den_v], h0, h1⟩) w1) (by simpa using hv)
          · exact hv.elim
        · split at hv
          · rename_i k l k' hh hl hl'
            obtain ⟨h0, h1, h2, hv⟩ := hv
            exact finQ (x := .v (.string _)) (fun w1 _ => run l hh (.inr ⟨k, by simp [ev_sound h (.nil a) hl, den_v], h0, h1⟩) (.inr ⟨k', by simp [ev_sound h (.nil a) hl', den_v], by omega, h2⟩) w1) hv
          · exact hv.elim
    · rename_i p n c e hx hu
      have e1 := ev_sound h (.nil a) hx
      split at hv
      · exact hv.elim
      · rename_i sz hs
        have run : ∀ (l hh m : Int), ((lo.map a.eval = none ∧ l = 0) ∨ ∃ k, lo.map a.eval = some (.int k l) ∧ 0 ≤ l ∧ l ≤ hh) →
            ((hi.map a.eval = none ∧ mx.map a.eval = none ∧ hh = n) ∨ ∃ k, hi.map a.eval = some (.int k hh) ∧ 0 ≤ hh ∧ hh ≤ m) →
            ((mx.map a.eval = none ∧ m = c) ∨ ∃ k, mx.map a.eval = some (.int k m) ∧ 0 ≤ m ∧ m ≤ (c : Int)) → ∀ w1 : World,
            (execOp a.eval { dst := dst, op := .slice t x lo hi mx, type := oty, pos := pos, after := after, guard := gd }).run P w1 = .ok (.value (.slice (slBase p l.toNat m.toNat sz) (hh.toNat - l.toNat) (m.toNat - l.toNat))) w1 := by
          intro l hh m hl hh' hm w1
          have b := run_sliceBounds (P := P) true n c (lo.map a.eval) (hi.map a.eval) (mx.map a.eval) l hh m w1 hm hh' hl
          simp only [execOp, e1, den_v, Instr.sliceAt, Instr.slice, Sem.run_bind, run_underlying hu, b, sizeT_spec hs, Result.andThen_ok, Sem.run_pure]
          rfl
        have zero : ∀ m : Nat, slBase p 0 m sz = p := fun m => by cases p <;> simp [slBase, Addr.add_zero']
        split at hv
        · refine finQ (x := .v (.slice p n c)) (fun w1 _ => ?_) hv
          have := run 0 n c (.inl ⟨rfl, rfl⟩) (.inl ⟨rfl, rfl, rfl⟩) (.inl ⟨rfl, rfl⟩) w1
          rw [this]
          simp [den_v, zero]
        · split at hv
          · rename_i k l hl
            obtain ⟨h0, h1, hv⟩ := hv
            exact finQ (x := .v (.slice _ _ _)) (fun w1 _ => run l n c (.inr ⟨k, by simp [ev_sound h (.nil a) hl, den_v], h0, h1⟩) (.inl ⟨rfl, rfl, rfl⟩) (.inl ⟨rfl, rfl⟩) w1) (by simpa using hv)
          · exact hv.elim
        · split at hv
          · rename_i k hh hl
            obtain ⟨h0, h1, hv⟩ := hv
            refine finQ (x := .v (.slice p hh.toNat c)) (fun w1 _ => ?_) hv
            rw [run 0 hh c (.inl ⟨rfl, rfl⟩) (.inr ⟨k, by simp [ev_sound h (.nil a) hl, den_v], h0, h1⟩) (.inl ⟨rfl, rfl⟩) w1]
            simp [den_v, zero]
          · exact hv.elim
        · split at hv
          · rename_i k l k' hh hl hl'
            obtain ⟨h0, h1, h2, hv⟩ := hv
            exact finQ (x := .v (.slice _ _ _)) (fun w1 _ => run l hh c (.inr ⟨k, by simp [ev_sound h (.nil a) hl, den_v], h0, h1⟩) (.inr ⟨k', by simp [ev_sound h (.nil a) hl', den_v], by omega, h2⟩) (.inl ⟨rfl, rfl⟩) w1) (by simpa using hv)
          · exact hv.elim
        · split at hv
          · rename_i k hh k' m hl hl'
            obtain ⟨h0, h1, h2, hv⟩ := hv
            refine finQ (x := .v (.slice p hh.toNat m.toNat)) (fun w1 _ => ?_) hv
            rw [run 0 hh m (.inl ⟨rfl, rfl⟩) (.inr ⟨k, by simp [ev_sound h (.nil a) hl, den_v], h0, h1⟩) (.inr ⟨k', by simp [ev_sound h (.nil a) hl', den_v], by omega, h2⟩) w1]
            simp [den_v, zero]
          · exact hv.elim
        · exact hv.elim
    · rename_i y n e hx hu
      have e1 := ev_sound h (.nil a) hx
      have run : ∀ (sz b o : Nat) (l hh : Int), sizeT P e = some sz → y.den = .pointer (some ⟨b, o, none⟩) → ((lo.map a.eval = none ∧ l = 0) ∨ ∃ k, lo.map a.eval = some (.int k l) ∧ 0 ≤ l ∧ l ≤ hh) →
          ((hi.map a.eval = none ∧ hh = n) ∨ ∃ k, hi.map a.eval = some (.int k hh) ∧ 0 ≤ hh ∧ hh ≤ (n : Int)) → ∀ w1 : World,
          (execOp a.eval { dst := dst, op := .slice t x lo hi none, type := oty, pos := pos, after := after, guard := gd }).run P w1 = .ok (.value (.slice (slBase (some ⟨b, o, none⟩) l.toNat n sz) (hh.toNat - l.toNat) (n - l.toNat))) w1 := by
        intro sz b o l hh hs hp hl hh' w1
        have bb := run_sliceBounds (P := P) false n n (lo.map a.eval) (hi.map a.eval) none l hh n w1 (.inl ⟨rfl, rfl⟩)
          (by rcases hh' with ⟨q1, q2⟩ | q
              · exact .inl ⟨q1, rfl, q2⟩
              · exact .inr q) hl
        simp [execOp, e1, hp, Instr.sliceAt, run_underlying hu, bb, sizeT_spec hs, Instr.sureAddr]
        simp only [slBase, Option.map]; split <;> rfl
      split at hv
      · rename_i sz hs
        obtain ⟨b, o, hp, hv⟩ := asPtr_out hv
        refine finQ (x := .v (.slice (some ⟨b, o, none⟩) n n)) (fun w1 _ => ?_) hv
        rw [run sz b o 0 n hs hp (.inl ⟨rfl, rfl⟩) (.inl ⟨rfl, rfl⟩) w1]
        simp [den_v, slBase, Addr.add_zero']
      · rename_i sz lo' hs
        split at hv
        · rename_i k l hl
          obtain ⟨b, o, hp, h0, h1, hv⟩ := asPtr_out hv
          exact finQ (x := .v (.slice _ _ _)) (fun w1 _ => run sz b o l n hs hp (.inr ⟨k, by simp [ev_sound h (.nil a) hl, den_v], h0, h1⟩) (.inl ⟨rfl, rfl⟩) w1) (by simpa using hv)
        · exact hv.elim
      · rename_i sz hi' hs
        split at hv
        · rename_i k hh hl
          obtain ⟨b, o, hp, h0, h1, hv⟩ := asPtr_out hv
          refine finQ (x := .v (.slice (some ⟨b, o, none⟩) hh.toNat n)) (fun w1 _ => ?_) hv
          rw [run sz b o 0 hh hs hp (.inl ⟨rfl, rfl⟩) (.inr ⟨k, by simp [ev_sound h (.nil a) hl, den_v], h0, h1⟩) w1]
          simp [den_v, slBase, Addr.add_zero']
        · exact hv.elim
      · exact hv.elim
    · exact hv.elim
  | makeSlice t x y =>
    dsimp only at hv
    split at hv
    · rename_i k1 l k2 c e hx hy hu
      split at hv
      · rename_i ty hty
        obtain ⟨i, d, hi, hz, hd, hsz, hls, hag, hby⟩ := tyOf_spec hty
        obtain ⟨h0, h1, h2, h3, hv⟩ := hv
        have hlen : ty.ls.length = i.size := by rw [hls, length_leavesOf]; simp [hsz]
        refine finN ?_ (hv _ _ ⟨rfl, rfl⟩) (by simp [quietOp])
        have e1 := ev_sound h (.nil a) hx
        have e2 := ev_sound h (.nil a) hy
        have := run_make (P := P) w _ e i ty.zero hu hi hz k1 k2 l c h0 h1 (by rw [← hby]; exact h2) h3
        rw [← hlen] at this
        have esc : scale c.toNat ty.ls.length = c.toNat * ty.ls.length := by
          unfold scale; split
          · rename_i hb; rw [nbeq.1 hb]; omega
          · rfl
        rw [← esc] at this
        simp only [execOp, e1, e2, den_v, den_b, den_loc, Sem.run_bind, this, Result.andThen_ok, Sem.run_pure]
      · exact hv.elim
    · exact hv.elim
  | buildSlice t n parts =>
    dsimp only at hv
    split at hv
    · rename_i el xs hu hxs
      split at hv
      · rename_i ty hty
        obtain ⟨i, d, hi, hz, hd, hsz, hls, hag, hby⟩ := tyOf_spec hty
        have hlen : ty.ls.length = i.size := by rw [hls, length_leavesOf]; simp [hsz]
        split at hv
        · rename_i cs hle hcs
          refine finN ?_ (hv _ _ ⟨rfl, rfl⟩) (by simp [quietOp])
          have hle' := Nat.le_of_ble_eq_true hle
          have e := evParts_spec h (.nil a) hxs
          have e1 : (parts.map fun (i, x) => (i, a.eval x)).toList = xs := by simpa using e
          rw [hlen] at hle' hcs
          have hn2 : ¬ (16777216 < n * i.size) := by omega
          have hmade : ∀ z : Array Value, n * i.size = 0 → (Array.range (n * i.size)).map (fun x => z[x % z.size]!) = madeCells ty.zero.cells (n * i.size) := by
            intro z h0; rw [h0]; simp [madeCells]
          simp only [execOp, Instr.buildSlice, Sem.run_bind, run_underlying hu, run_sizeOf hi, Result.andThen_ok]
          rw [if_neg (by simpa using hn2)]
          by_cases h0 : n * i.size = 0
          · rw [if_pos h0]
            simp only [Sem.run_bind, Sem.run_pure, Result.andThen_ok]
            rw [hmade _ h0, e1, hcs]
            simp [newRow, den_v, den_b, den_loc]
          · rw [if_neg h0]
            simp only [Sem.run_bind, Sem.run_pure, run_zeroValue hi hz, Result.andThen_ok]
            rw [e1]
            have : (Array.range (n * i.size)).map (fun x => ty.zero.cells[x % ty.zero.cells.size]!) = madeCells ty.zero.cells (n * i.size) := rfl
            rw [this, hcs]
            simp [newRow, den_v, den_b, den_loc]
        · exact hv.elim
      · exact hv.elim
    · exact hv.elim
  | binOp op t x0 y0 yt =>
    dsimp only at hv
    split at hv
    · rename_i k x k' y hx hy
      have e1 := ev_sound h (.nil a) hx
      have e2 := ev_sound h (.nil a) hy
      split at hv
      · obtain ⟨h0, hv⟩ := hv
        refine finQ (fun w1 _ => ?_) hv
        have : ¬ y < 0 := by omega
        simp [execOp, e1, e2, den_v, den_b, den_loc, eqGuard_shl, binOp_shl, Op.shift, this, shlI]
      · obtain ⟨h0, hv⟩ := hv
        refine finQ (fun w1 _ => ?_) hv
        have : ¬ y < 0 := by omega
        simp [execOp, e1, e2, den_v, den_b, den_loc, eqGuard_shr, binOp_shr, Op.shift, this, shrI]
      · split at hv
        · rename_i hk
          obtain ⟨h0, hv⟩ := hv
          have := kid_inj hk; subst this
          refine finQ (fun w1 _ => ?_) hv
          simp [execOp, e1, e2, den_v, den_b, den_loc, eqGuard_quo, binOp_quo, Op.intDiv, h0, quoI]
        · exact hv.elim
      · split at hv
        · rename_i hk
          obtain ⟨h0, hv⟩ := hv
          have := kid_inj hk; subst this
          refine finQ (fun w1 _ => ?_) hv
          simp [execOp, e1, e2, den_v, den_b, den_loc, eqGuard_rem, binOp_rem, Op.intDiv, h0, remI]
        · exact hv.elim
      · exact hv.elim
    · rename_i x y hx hy
      have e1 := ev_sound h (.nil a) hx
      have e2 := ev_sound h (.nil a) hy
      split at hv
      · obtain ⟨h0, hv⟩ := hv
        refine finQ (fun w1 _ => ?_) hv
        simp only [execOp, e1, e2, den_v, den_b, den_loc, eqGuard_add, Sem.run_bind, Sem.run_pure, Result.andThen_ok, binOp]
        rw [run_string_add_sum w1 x y h0]
        rfl
      · exact hv.elim
    · rename_i x y _ _ hx hy
      have e1 := ev_sound h (.nil a) hx
      have e2 := ev_sound h (.nil a) hy
      obtain ⟨r, hr, hv⟩ := hv
      refine finQ (fun w1 _ => ?_) hv
      have : (execOp a.eval { dst := dst, op := .binOp op t x0 y0 yt, type := oty, pos := pos, after := after, guard := gd }).run P w1 = ((do eqGuard op t x0 y0 x.den y.den; binOp op t x.den y.den : Sem Value).run P w1).andThen fun v w => .ok (.value v) w := by
        simp only [execOp, e1, e2, Sem.run_bind, Sem.run_pure]
      rw [this, hr w1]
      rfl
    · exact hv.elim
  | convert src dst' x =>
    dsimp only at hv
    split at hv
    · rename_i e p n c hs hd hx
      have e1 := ev_sound h (.nil a) hx
      split at hv
      · rename_i he
        obtain ⟨l, hb, hv⟩ := hv
        refine finQ (fun w1 hsm => ?_) hv
        have hb1 : BytesAt w1 p n l := ⟨hb.1, fun hp => let ⟨b, o, e, hc⟩ := hb.2 hp; ⟨b, o, e, fun i hi => (hsm rfl).cell (hc i hi)⟩⟩
        simp only [execOp, e1, den_v, den_b, den_loc, Sem.run_bind, BytesAt_run hs he hd hb1, Result.andThen_ok, Sem.run_pure]
      · exact hv.elim
    · rename_i e s hs hd hx
      have e1 := ev_sound h (.nil a) hx
      split at hv
      · rename_i he
        have hv := hv (grownCap w s.size 0 e) _ _ (grownCap_ge w s.size 0 e) ⟨rfl, rfl⟩
        refine finN ?_ hv (by simp [quietOp, hs, hd])
        simp only [execOp, e1, den_v, den_b, den_loc, Sem.run_bind, run_bytes_of_string w _ _ e s hs hd he, Result.andThen_ok, Sem.run_pure]
        rfl
      · exact hv.elim
    · rename_i e0 e p n c hs hd hx
      have e1 := ev_sound h (.nil a) hx
      split at hv
      · rename_i he heq
        obtain ⟨b, o, cs, t, fr, rfl, hb, hv⟩ := hv
        have hsd := nbeq.1 heq
        subst hsd
        rw [hs] at hd
        cases hd
        refine finN ?_ hv (by simp [quietOp, hs])
        have hsh : w.shape? b = some (t, cs.size) := by simp [World.shape?, hb]
        simp [execOp, e1, den_v, convert, run_underlying hs, run_underlying he, markStringish, hsh]
      · exact hv.elim
    · exact hv.elim
  | makeMap t oo =>
    cases oo with
    | none =>
      refine finN ?_ (hv _ _ ⟨rfl, rfl⟩) (by simp [quietOp])
      simp [execOp, Instr.makeMap, den_v, den_b, den_loc]
    | some _ => exact hv.elim
  | lookup t x i ok =>
    dsimp only at hv
    split at hv
    · rename_i m k kt e hx hi hu
      have e1 := ev_sound h (.nil a) hx
      have e2 := ev_sound h (.nil a) hi
      split at hv
      · obtain ⟨r, hr, hv⟩ := ExT_out hv
        refine finQ (fun w1 hsm => ?_) hv
        simp only [execOp, e1, e2, Sem.run_bind, hr w1 (hsm rfl), Result.andThen_ok, Sem.run_pure]
      · obtain ⟨r, b, hr, hv⟩ := ExT_out hv
        refine finQ (fun w1 hsm => ?_) hv
        simp only [execOp, e1, e2, Sem.run_bind, hr w1 (hsm rfl), Result.andThen_ok, Sem.run_pure, den_v, den_b, den_loc]
      · exact hv.elim
    · exact hv.elim
  | mapUpdate t m k x =>
    dsimp only at hv
    split at hv
    · rename_i m k x hm hk hx
      obtain ⟨w', hr, hv⟩ := hv
      refine finS ?_ hv (by simp [quietOp])
      simp only [execOp, ev_sound h (.nil a) hm, ev_sound h (.nil a) hk, ev_sound h (.nil a) hx, Sem.run_bind, hr, Result.andThen_ok, Sem.run_pure]
    · exact hv.elim
  | call cl =>
    obtain ⟨callee, args, argTypes⟩ := cl
    dsimp only at hv
    split at hv
    · rename_i x y t u hxs hts
      obtain ⟨p, n, c, w', hr, hv⟩ := hv
      have e := evs_sound h (.nil a) hxs
      have e1 : args.map a.eval = #[x.den, y.den] := by apply Array.ext'; simpa [dens] using e
      have e2 : argTypes = #[t, u] := by apply Array.ext'; simpa using hts
      refine finN ?_ hv (by simp [quietOp, lenOp])
      simp only [execOp, resolve, invoke, builtin, e1, e2, Sem.run_bind, Sem.run_pure, Result.andThen_ok, hr, den_v, den_b, den_loc]
    · rename_i x y t u hxs hts
      obtain ⟨n, w', hr, hv⟩ := hv
      have e := evs_sound h (.nil a) hxs
      have e1 : args.map a.eval = #[x.den, y.den] := by apply Array.ext'; simpa [dens] using e
      have e2 : argTypes = #[t, u] := by apply Array.ext'; simpa using hts
      refine finN ?_ hv (by simp [quietOp, lenOp])
      simp only [execOp, resolve, invoke, builtin, e1, e2, Sem.run_bind, Sem.run_pure, Result.andThen_ok, hr, den_v, den_b, den_loc]
    · exact hv.elim
  | _ => exact hv.elim
end

end Go.Vc

/- Soundness of the generator, part D: a list of operations in the order of the text; a region that draws its order. -/
namespace Go.Vc
open Go

section
variable {P : Program} {N : Nat} {rd : Option Nat} {Q : Exit → Act → World → Prop}

theorem callsIn_FW {n : Nat} {f : FuncId} {args : Array Value} {w : World} {R : Ending → World → Prop} (h : Calls P f args w R) : CallsIn (FW rd) n P f args w R := by
  have h0 : CallsIn Fence.wide n P f args w R := callsIn_wide.2 h
  cases rd with
  | none => exact h0
  | some l => exact CallsIn.inRound l h0

theorem valOp_defer {st : St} {o : Oper} {w : World} {F : SV → World → Prop} (h : valOp P st o w F) (c : Call) : o.op ≠ .defer c := by
  intro e
  unfold valOp at h
  simp [e, pureOp] at h

theorem wpIn_of_done {o : Oper} {a c : Act} {w w' : World} {x : SV} {next : Act → World → Prop} (he : execOp c.eval o = execOp a.eval o) (hd : ∀ c, o.op ≠ .defer c) (h : Done P a o w x w') (hn : next (c.put o.dst x.den) w') :
    o.wpIn (FW rd) 0 P c w next Q := by
  refine ⟨fun _ _ => trivial, ?_⟩
  rw [Oper.semAt_eq _ _ _ hd, he]
  rcases h with h | ⟨h, rfl⟩
  · rw [h]; exact hn
  · rw [h]; exact hn

theorem run_enter {f : FuncId} {args : Array Value} {w : World} (h : enterable P f = true) : (callFunc f args).run P w = .ok (.enter f args) w := by
  unfold enterable at h
  split at h
  · cases h
  · rename_i fn hfn
    simp only [Bool.and_eq_true, Bool.not_eq_true'] at h
    obtain ⟨h1, h2⟩ := h
    have h3 : ¬ fn.body = none := by intro e; rw [e] at h1; cases h1
    have h4 : ¬ fn.name = "runtime.NumGoroutine" := by simpa using h2
    simp [callFunc, hfn, h3, h4]

theorem oneOp_sound2 {st : St} {a c : Act} {o : Oper} {w : World} {F : SV → World → Prop} {next : Act → World → Prop} (h : Agree N st a) (he : execOp c.eval o = execOp a.eval o) (hv : oneOp P st o w F)
    (hn : ∀ x w', F x w' → next (c.put o.dst x.den) w') : o.wpIn (FW rd) 0 P c w next Q := by
  have other : valOp P st o w F → o.wpIn (FW rd) 0 P c w next Q := fun hv => by
    obtain ⟨x, w', hd, hF, _⟩ := val_sound h hv
    exact wpIn_of_done he (valOp_defer hv) hd (hn _ _ hF)
  unfold oneOp at hv
  split at hv
  · rename_i cl hop
    obtain ⟨callee, ag, ts⟩ := cl
    dsimp only at hv
    cases callee with
    | value f =>
      dsimp only at hv
      split at hv
      · rename_i g first cap xs hf hxs
        split at hv
        · rename_i ts' hen hres
          refine ⟨fun _ _ => trivial, ?_⟩
          rw [Oper.semAt_eq _ _ _ (fun c => by rw [hop]; simp), he]
          have e1 := ev_sound h (.nil a) hf
          have e2 := evs_sound h (.nil a) hxs
          have e3 : ag.map a.eval = (dens xs).toArray := by apply Array.ext'; simpa using e2
          have hr : (execOp a.eval o).run P w = .ok (.enter g (first.toList ++ (dens xs ++ cap.toList)).toArray) w := by
            have e4 : first ++ (dens xs).toArray ++ cap = (first.toList ++ (dens xs ++ cap.toList)).toArray := by apply Array.ext'; simp
            simp only [execOp, hop, resolve, e1, SV.den, Deferred.ofValue, Sem.run_bind, Sem.run_pure, Result.andThen_ok, invoke, e3, e4, run_enter hen]
          rw [hr, Oper.uponIn_enter]
          refine ⟨fun h => by simp [FW] at h, callsIn_FW (hv.mono ?_)⟩
          intro e w' he
          obtain ⟨rs, rfl, hF⟩ := ExTs_out he
          exact hn _ _ hF
        · rename_i ts' hen hres
          obtain ⟨rs, w', hrun, hF⟩ := ExTs_out hv
          have e1 := ev_sound h (.nil a) hf
          have e2 := evs_sound h (.nil a) hxs
          have e3 : ag.map a.eval = (dens xs).toArray := by apply Array.ext'; simpa using e2
          have hr : (execOp a.eval o).run P w = .ok (.value (ofResults rs).den) w' := by
            have e4 : first ++ (dens xs).toArray ++ cap = (first.toList ++ (dens xs ++ cap.toList)).toArray := by apply Array.ext'; simp
            simp only [execOp, hop, resolve, e1, SV.den, Deferred.ofValue, Sem.run_bind, Sem.run_pure, Result.andThen_ok, invoke, e3, e4, hrun]
          exact wpIn_of_done he (fun c => by rw [hop]; simp) (.inl hr) (hn _ _ hF)
        · exact hv.elim
      · rename_i l first cap xs hf hxs
        refine ⟨fun _ _ => trivial, ?_⟩
        rw [Oper.semAt_eq _ _ _ (fun c => by rw [hop]; simp), he]
        have e1 := ev_sound h (.nil a) hf
        have e2 := evs_sound h (.nil a) hxs
        have e3 : ag.map a.eval = (dens xs).toArray := by apply Array.ext'; simpa using e2
        obtain ⟨fn, tmps, asg, body, hy, hround⟩ := hv rd
        have hr : (execOp a.eval o).run P w = .ok (.round l fn tmps asg body) w := by
          have e4 : first ++ (dens xs).toArray = (first.toList ++ dens xs).toArray := by apply Array.ext'; simp
          simp only [execOp, hop, resolve, e1, SV.den, Deferred.ofValue, Sem.run_bind, Sem.run_pure, Result.andThen_ok, invoke, e3, e4, hy]
        rw [hr, Oper.uponIn_round]
        refine ⟨fun h => by simp [FW] at h, hround.mono ?_⟩
        rintro e w' ⟨b, rfl, hF⟩
        exact hn _ _ hF
      · rename_i v xs hf hxs
        obtain ⟨l, rfl, hv⟩ := hv
        refine ⟨fun _ _ => trivial, ?_⟩
        rw [Oper.semAt_eq _ _ _ (fun c => by rw [hop]; simp), he]
        have e1 := ev_sound h (.nil a) hf
        have e2 := evs_sound h (.nil a) hxs
        have e3 : ag.map a.eval = (dens xs).toArray := by apply Array.ext'; simpa using e2
        obtain ⟨fn, tmps, asg, body, hy, hround⟩ := hv rd
        have hr : (execOp a.eval o).run P w = .ok (.round l fn tmps asg body) w := by
          have e4 : #[] ++ (dens xs).toArray = (dens xs).toArray := by apply Array.ext'; simp
          simp only [execOp, hop, resolve, e1, SV.den, Deferred.ofValue, Sem.run_bind, Sem.run_pure, Result.andThen_ok, invoke, e3, e4, hy]
        rw [hr, Oper.uponIn_round]
        refine ⟨fun h => by simp [FW] at h, hround.mono ?_⟩
        rintro e w' ⟨b, rfl, hF⟩
        exact hn _ _ hF
      · exact hv.elim
    | _ => exact other hv
  · exact other hv

theorem oneOp_sound {st : St} {a : Act} {o : Oper} {w : World} {F : SV → World → Prop} {next : Act → World → Prop} (h : Agree N st a) (hv : oneOp P st o w F)
    (hn : ∀ x w', F x w' → next (a.put o.dst x.den) w') : o.wpIn (FW rd) 0 P a w next Q := oneOp_sound2 h rfl hv hn

/-! ### What stays of the environment -/
def Fr (ws : List (Nat × TypeId)) (st st' : St) : Prop := st'.ds = st.ds ∧ ∀ i, inW ws i = false → lkE st'.e i = lkE st.e i

theorem Fr.refl (ws : List (Nat × TypeId)) (st : St) : Fr ws st st := ⟨rfl, fun _ _ => rfl⟩
theorem Fr.trans {ws : List (Nat × TypeId)} {x y z : St} (h : Fr ws x y) (k : Fr ws y z) : Fr ws x z := ⟨k.1.trans h.1, fun i hi => (k.2 i hi).trans (h.2 i hi)⟩
theorem Fr.mono {ws ws' : List (Nat × TypeId)} {x y : St} (h : Fr ws x y) (hs : ∀ i, inW ws' i = false → inW ws i = false) : Fr ws' x y := ⟨h.1, fun i hi => h.2 i (hs i hi)⟩

theorem inW_append (a b : List (Nat × TypeId)) (i : Nat) : inW (a ++ b) i = (inW a i || inW b i) := by
  induction a with
  | nil => simp [inW]
  | cons p r ih =>
    simp only [List.cons_append, inW]
    split <;> simp_all

theorem wrOps_mem {os : List Oper} {o : Oper} {d : Nat} (h : o ∈ os) (hd : o.dst = some d) : inW (wrOps os) d = true := by
  induction os with
  | nil => cases h
  | cons q r ih =>
    cases h with
    | head => simp [wrOps, hd, inW, nbeq.2 rfl]
    | tail _ hm =>
      unfold wrOps
      split
      · unfold inW; split
        · rfl
        · exact ih hm
      · exact ih hm

theorem Fr.put {ws : List (Nat × TypeId)} {st : St} {d : Option Nat} {x : SV} (h : ∀ k, d = some k → inW ws k = true) : Fr ws st (put st d x) := by
  cases d with
  | none => exact .refl _ _
  | some d =>
    refine ⟨rfl, fun i hi => ?_⟩
    have : d ≠ i := fun e => by subst e; rw [h d rfl] at hi; cases hi
    simp only [Vc.put, lkE, nbeq_no.2 this]

theorem Fr.putG {ws : List (Nat × TypeId)} {st : St} {d s : Nat} {t : Bool} {x : SV} (h : inW ws d = true) : Fr ws st (putG st d s t x) := by
  refine ⟨rfl, fun i hi => ?_⟩
  have : d ≠ i := fun e => by subst e; rw [h] at hi; cases hi
  simp only [Vc.putG, lkE, nbeq_no.2 this]

theorem Fr.know {ws : List (Nat × TypeId)} {st : St} {s : Nat} {u : Bool} (h : inW ws s = true) : Fr ws st (refine' st s u) := by
  refine ⟨rfl, fun i hi => ?_⟩
  have : s ≠ i := fun e => by subst e; rw [h] at hi; cases hi
  simp only [refine', lkE, nbeq_no.2 this]

/-! ### Guards -/
theorem gdst_spec : ∀ {all : List Oper} {j s : Nat}, gdst all j = some s → ∃ o ∈ all, o.dst = some s ∧ all[j]? = some o := by
  intro all
  induction all with
  | nil => intro j s h; simp [gdst] at h
  | cons o r ih =>
    intro j s h
    cases j with
    | zero => exact ⟨o, by simp, h, rfl⟩
    | succ j => obtain ⟨o', ho, hd, hj⟩ := ih (j := j) h; exact ⟨o', List.mem_cons_of_mem _ ho, hd, by simpa using hj⟩

theorem yielded_eq {all : List Oper} {a : Act} {j s : Nat} (h : gdst all j = some s) :
    yielded all.toArray a.tmps j = (match a.tmps.getD s undef with | .bool b => some b | _ => none) := by
  obtain ⟨o, _, hd, hj⟩ := gdst_spec h
  unfold yielded
  have h1 : (all.toArray[j]?).bind (·.dst) = some s := by simp [hj, hd]
  rw [h1]
  simp only [Option.bind_some, Array.getD_eq_getD_getElem?]
  cases a.tmps[s]? with
  | none => simp [undef]
  | some v => cases v <;> rfl

theorem wanted_none {o : Oper} {y : Nat → Option Bool} (h : o.guard = none) : Region.wanted o y = true := by simp [Region.wanted, h]

theorem wanted_some {o : Oper} {all : List Oper} {a : Act} {j s : Nat} {t : Bool} (hg : o.guard = some (j, t)) (h : gdst all j = some s) :
    Region.wanted o (yielded all.toArray a.tmps) = ((match a.tmps.getD s undef with | .bool b => some b | _ => none) == some t) := by
  simp only [Region.wanted, hg, yielded_eq h]

inductive GSays (a : Act) (ws : List (Nat × TypeId)) (s : Nat) (t : Bool) : GV → Prop
  | yes (h : a.tmps.getD s undef = .bool t) : GSays a ws s t .yes
  | no (h : ∀ b, a.tmps.getD s undef = .bool b → b ≠ t) : GSays a ws s t .no
  | split (s' : Nat) (g : Cnd) (h : a.tmps.getD s' undef = .bool g.val) : GSays a ws s t (.split s' g)
  | bad : GSays a ws s t .bad

theorem guardV_says {st : St} {a : Act} (ws : List (Nat × TypeId)) (h : Agree N st a) (s : Nat) (t : Bool) : GSays a ws s t (guardV st s t) := by
  unfold guardV
  split
  · rename_i u hu
    have := h.e _ _ hu
    split
    · rename_i hb; rw [bq_iff] at hb; subst hb; exact .yes this
    · rename_i hb; rw [bq_no] at hb; exact .no fun b hb' => by rw [this] at hb'; cases hb'; exact hb
  · rename_i g hg; exact .split _ _ (h.e _ _ hg)
  · rename_i g hg; exact .split _ _ (h.e _ _ hg)
  · rename_i vs hv; exact .no fun b hb => by rw [h.e _ _ hv] at hb; cases hb
  · exact .bad
  · rename_i hn
    split
    · exact .bad
    · rename_i d hd
      split
      · rename_i g hg; exact .split _ _ (h.e _ _ hg)
      · rename_i g hg; exact .split _ _ (h.e _ _ hg)
      · rename_i u hu
        have hs := h.e _ _ hu
        split
        · rename_i hb
          rw [bq_no] at hb
          have : u = !d.t := by cases u <;> cases hd' : d.t <;> simp_all
          subst this
          exact .no fun b hb' => by rw [h.u _ _ hd hn hs] at hb'; cases hb'
        · rename_i hb
          rw [bq_iff] at hb
          subst hb
          have hx := h.g _ _ hd hn hs
          split
          · rename_i u' hu'
            rw [hu'] at hx
            split
            · rename_i hb; rw [bq_iff] at hb; subst hb; exact .yes hx
            · rename_i hb; rw [bq_no] at hb; exact .no fun b hb' => by rw [hx] at hb'; cases hb'; exact hb
          · rename_i g hg; rw [hg] at hx; exact .split _ _ hx
          · rename_i g hg; rw [hg] at hx; exact .split _ _ hx
          · exact .bad
      · rename_i hn2
        split
        · exact .bad
        · rename_i d2 hd2
          split
          · rename_i u hu
            have hs := h.e _ _ hu
            split
            · exact .bad
            · rename_i hb
              rw [bq_iff] at hb
              subst hb
              have hx := h.g _ _ hd2 hn2 hs
              split
              · rename_i g hg; rw [hg] at hx; exact .split _ _ hx
              · rename_i g hg; rw [hg] at hx; exact .split _ _ hx
              · exact .bad
          · exact .bad
      · exact .bad

/-! ### One step -/
/-- The value of an operation that leaves the world as it is; or that is passed over. -/
def YV (P : Program) (all : List Oper) (w : World) (o : Oper) (v : Value) (a : Act) : Prop :=
  (Region.wanted o (yielded all.toArray a.tmps) = true ∧ (execOp a.eval o).run P w = .ok (.value v) w ∧ ∀ c, o.op ≠ .defer c) ∨ (Region.wanted o (yielded all.toArray a.tmps) = false ∧ v = undef)

theorem pure_defer {st : St} {c : List (Nat × Bool)} {op : Op} {x : SV} (h : pureOp P st c op = some x) (d : Call) : op ≠ .defer d := by
  intro e; subst e; simp [pureOp] at h

theorem guardV_split_ws {ws : List (Nat × TypeId)} {st : St} {s : Nat} {t : Bool} {s' : Nat} {g : Cnd} (hsw : inW ws s = true) (hgd : ∀ d ∈ st.ge, inW ws d.s = true) (hgv : guardV st s t = .split s' g) : inW ws s' = true := by
  unfold guardV at hgv
  split at hgv
  · split at hgv <;> cases hgv
  · cases hgv; exact hsw
  · cases hgv; exact hsw
  · cases hgv
  · cases hgv
  · split at hgv
    · cases hgv
    · rename_i d hd
      have hmem : d ∈ st.ge := by
        clear hgv
        generalize st.ge = ge at hd
        induction ge with
        | nil => simp [lkG] at hd
        | cons q r ih =>
          unfold lkG at hd
          split at hd
          · cases hd; simp
          · exact List.mem_cons_of_mem _ (ih hd)
      split at hgv
      · cases hgv; exact hgd d hmem
      · cases hgv; exact hgd d hmem
      · split at hgv
        · cases hgv
        · split at hgv
          · split at hgv <;> cases hgv
          · cases hgv; exact hsw
          · cases hgv; exact hsw
          · cases hgv
      · split at hgv
        · cases hgv
        · split at hgv
          · split at hgv
            · cases hgv
            · split at hgv
              · cases hgv; exact hgd d hmem
              · cases hgv; exact hgd d hmem
              · cases hgv
          · cases hgv
      · cases hgv

theorem gstep_sound {all : List Oper} {o : Oper} {K : St → World → Prop} {a : Act} {w : World} {ws : List (Nat × TypeId)} {s : Nat} {t : Bool} (hsw : inW ws s = true) (hdst : ∀ k, o.dst = some k → inW ws k = true)
    (hw : Region.wanted o (yielded all.toArray a.tmps) = ((match a.tmps.getD s undef with | .bool b => some b | _ => none) == some t)) :
    ∀ (f : List Unit) (st : St), (∀ d ∈ st.ge, inW ws d.s = true) → Agree N st a → okDst N st o.dst = true → gstep P o s t K f st w →
    (Region.wanted o (yielded all.toArray a.tmps) = true ∧ ∃ st1, Agree N st1 a ∧ Fr ws st st1 ∧ st1.ge = st.ge ∧ okDst N st1 o.dst = true ∧ oneOp P st1 o w fun x w' => K (put st1 o.dst x) w') ∨
    (∃ v st2, (∀ w1, YV P all w1 o v a) ∧ Agree N st2 (a.put o.dst v) ∧ Fr ws st st2 ∧ (∀ d ∈ st2.ge, inW ws d.s = true) ∧ K st2 w) := by
  have skipped : ∀ (st : St), (∀ d ∈ st.ge, inW ws d.s = true) → Agree N st a → okDst N st o.dst = true → (∀ b, a.tmps.getD s undef = .bool b → b ≠ t) → K (skipO st o) w →
      (∃ v st2, (∀ w1, YV P all w1 o v a) ∧ Agree N st2 (a.put o.dst v) ∧ Fr ws st st2 ∧ (∀ d ∈ st2.ge, inW ws d.s = true) ∧ K st2 w) := by
    intro st hgd h1 hok1 hno hrest
    refine ⟨undef, skipO st o, fun _ => .inr ⟨?_, rfl⟩, ?_, Fr.put hdst, ?_, hrest⟩
    · rw [hw]
      split
      · rename_i b hb; have := hno b hb; cases b <;> cases t <;> simp_all
      · rfl
    · exact h1.put hok1
    · intro d hd
      have : d ∈ st.ge := by cases hdd : o.dst <;> simpa [skipO, Vc.put, hdd] using hd
      exact hgd d this
  intro f
  induction f with
  | nil =>
    intro st hgd h hok hv
    have says := guardV_says ws h s t
    unfold gstep at hv
    split at hv
    · rename_i hgv
      rw [hgv] at says
      cases says with
      | yes hb => exact .inl ⟨by rw [hw, hb]; simp, st, h, .refl _ _, rfl, hok, hv⟩
    · rename_i hgv
      rw [hgv] at says
      cases says with
      | no hb => exact .inr (skipped st hgd h hok hb hv)
    · exact hv.elim
  | cons _ f ih =>
    intro st hgd h hok hv
    have says := guardV_says ws h s t
    unfold gstep at hv
    split at hv
    · rename_i hgv
      rw [hgv] at says
      cases says with
      | yes hb => exact .inl ⟨by rw [hw, hb]; simp, st, h, .refl _ _, rfl, hok, hv⟩
    · rename_i hgv
      rw [hgv] at says
      cases says with
      | no hb => exact .inr (skipped st hgd h hok hb hv)
    · exact hv.elim
    · rename_i s' g hgv
      rw [hgv] at says
      cases says with
      | split _ _ hb =>
      split at hv
      · rename_i d x hd hss hx
        rw [hd] at hok
        split at hv
        · exact hv.elim
        · rename_i hsd
          have hse : s = s' := nbeq.1 hss
          subst hse
          have hokd : okDst N st o.dst = true := by rw [hd]; exact hok
          have hsd' : s ≠ d := nbeq_no.1 hsd
          right
          by_cases hgt : g.val = t
          · rw [hgt] at hb
            have hrun := pure_sound (o := o) h (c := [(s, t)]) (fun p hp => by simp at hp; subst hp; exact hb) hx
            refine ⟨x.den, putG st d s t x, fun w1 => .inl ⟨by rw [hw, hb]; simp, hrun w1, fun c => pure_defer hx c⟩, ?_, Fr.putG (hdst d hd), ?_, hv⟩
            · rw [hd]; exact h.putG hok hsd' (fun _ => rfl) (fun hb' => by rw [hb] at hb'; cases t <;> cases hb')
            · intro q hq
              simp only [putG, List.mem_cons] at hq
              rcases hq with rfl | hq
              · exact hsw
              · exact hgd q hq
          · refine ⟨undef, putG st d s t x, fun _ => .inr ⟨?_, rfl⟩, ?_, Fr.putG (hdst d hd), ?_, hv⟩
            · rw [hw, hb]; cases hgv : g.val <;> cases t <;> simp_all
            · rw [hd]; exact h.putG hok hsd' (fun hb' => by rw [hb] at hb'; cases hb'; exact absurd rfl hgt) (fun _ => rfl)
            · intro q hq
              simp only [putG, List.mem_cons] at hq
              rcases hq with rfl | hq
              · exact hsw
              · exact hgd q hq
      · -- parted on the guard's Bool
        have hs'w : inW ws s' = true := guardV_split_ws hsw hgd hgv
        have h1 : Agree N (refine' st s' g.val) a := h.know hb
        have hok1 : okDst N (refine' st s' g.val) o.dst = true := by cases hdd : o.dst with | none => rfl | some d => (rw [hdd] at hok; exact hok)
        have hv' : gstep P o s t K f (refine' st s' g.val) w := by
          cases hgb : g.val with
          | true => exact hv.1 (Cnd.is_of hgb)
          | false => exact hv.2 (Cnd.is_of hgb)
        have hf1 : Fr ws st (refine' st s' g.val) := Fr.know hs'w
        rcases ih (refine' st s' g.val) hgd h1 hok1 hv' with ⟨e1, st1, e2, e3, e4, e5, e6⟩ | ⟨v, st2, e1, e2, e3, e4, e5⟩
        · exact .inl ⟨e1, st1, e2, hf1.trans e3, e4, e5, e6⟩
        · exact .inr ⟨v, st2, e1, e2, hf1.trans e3, e4, e5⟩

theorem vcOps_step {all : List Oper} {o : Oper} {rest : List Oper} {K : St → World → Prop} {st : St} {a : Act} {w : World} {ws : List (Nat × TypeId)} (hws : ∀ i, inW (wrOps all) i = true → inW ws i = true)
    (hgd : ∀ d ∈ st.ge, inW ws d.s = true) (ho : o ∈ all) (h : Agree N st a) (hv : vcOps P N all (o :: rest) K st w) :
    (Region.wanted o (yielded all.toArray a.tmps) = true ∧ ∃ st1, Agree N st1 a ∧ Fr ws st st1 ∧ st1.ge = st.ge ∧ okDst N st1 o.dst = true ∧ oneOp P st1 o w fun x w' => vcOps P N all rest K (put st1 o.dst x) w') ∨
    (∃ v st2, (∀ w1, YV P all w1 o v a) ∧ Agree N st2 (a.put o.dst v) ∧ Fr ws st st2 ∧ (∀ d ∈ st2.ge, inW ws d.s = true) ∧ vcOps P N all rest K st2 w) := by
  have hdst : ∀ k, o.dst = some k → inW ws k = true := fun k hk => hws _ (wrOps_mem ho hk)
  unfold vcOps at hv
  split at hv
  · exact hv.elim
  rename_i hok
  split at hv
  · rename_i hg
    exact .inl ⟨wanted_none hg, st, h, .refl _ _, rfl, hok, hv⟩
  · rename_i j t hg
    split at hv
    · exact hv.elim
    rename_i s hs
    obtain ⟨og, hogm, hogd, _⟩ := gdst_spec hs
    exact gstep_sound (hws _ (wrOps_mem hogm hogd)) hdst (wanted_some (a := a) hg hs) [(), (), (), ()] st hgd h hok hv

theorem put_ge (st : St) (d : Option Nat) (x : SV) : (put st d x).ge = st.ge := by cases d <;> rfl

/-- The operations of a region in the order of the text. -/
theorem vcOps_sound {all : List Oper} {K : St → World → Prop} {ws : List (Nat × TypeId)} {st0 : St} (hws : ∀ i, inW (wrOps all) i = true → inW ws i = true)
    (hq : ∀ st' a' w', Agree N st' a' → Fr ws st0 st' → K st' w' → Q .normal a' w') :
    ∀ (l : List Oper) (st : St) (a : Act) (w : World), (∀ o ∈ l, o ∈ all) → (∀ d ∈ st.ge, inW ws d.s = true) → Agree N st a → Fr ws st0 st → vcOps P N all l K st w → wpListIn (FW rd) 0 P all.toArray Q l a w := by
  intro l
  induction l with
  | nil =>
    intro st a w _ _ h hf hv
    exact hq _ _ _ h.clear ⟨hf.1, hf.2⟩ hv
  | cons o rest ih =>
    intro st a w hl hgd h hf hv
    have hrest : ∀ o ∈ rest, o ∈ all := fun x hx => hl x (List.mem_cons_of_mem _ hx)
    have ho := hl o (by simp)
    unfold wpListIn
    rcases vcOps_step hws hgd ho h hv with ⟨hw, st1, h1, hf1, hge1, hok1, hone⟩ | ⟨v, st2, hy, h2, hf2, hgd2, hr⟩
    · rw [if_pos hw]
      refine oneOp_sound h1 hone fun x w' hx => ?_
      refine ih _ _ _ hrest ?_ (h1.put hok1) ((hf.trans hf1).trans (Fr.put fun k hk => hws _ (wrOps_mem ho hk))) hx
      rw [put_ge, hge1]; exact hgd
    · rcases hy w with ⟨hw, hrun, hd⟩ | ⟨hw, rfl⟩
      · rw [if_pos hw]
        refine ⟨fun _ _ => trivial, ?_⟩
        rw [Oper.semAt_eq _ _ _ hd, hrun]
        exact ih _ _ _ hrest hgd2 h2 (hf.trans hf2) hr
      · rw [if_neg (by rw [hw]; simp)]
        exact ⟨fun _ _ => trivial, ih _ _ _ hrest hgd2 h2 (hf.trans hf2) hr⟩

end

end Go.Vc

/- Soundness of the generator, part E: a region that draws its order comes to one end in whatever order. -/
namespace Go.Vc
open Go

section
variable {P : Program} {rd : Option Nat} {Q : Exit → Act → World → Prop}

theorem memN_iff {l : List Nat} {i : Nat} : memN l i = true ↔ i ∈ l := by
  induction l with
  | nil => simp [memN]
  | cons j r ih =>
    unfold memN
    split
    · rename_i h; simp [nbeq.1 h]
    · rename_i h; have := nbeq_no.1 h; rw [ih]; simp [Ne.symm this]

theorem allB_iff {α : Type} {p : α → Bool} {l : List α} : allB p l = true ↔ ∀ x ∈ l, p x = true := by
  induction l with
  | nil => simp [allB]
  | cons x r ih =>
    unfold allB
    split
    · rename_i h; simp [h, ih]
    · rename_i h; simp [h]

theorem gdst_eq (all : List Oper) (j : Nat) : gdst all j = (all[j]?).bind (·.dst) := by
  induction all generalizing j with
  | nil => rfl
  | cons o r ih => cases j with
    | zero => rfl
    | succ j => simpa [gdst] using ih j

theorem yielded_gdst (all : List Oper) (a : Act) (j : Nat) :
    yielded all.toArray a.tmps j = (match gdst all j with | none => none | some s => match a.tmps.getD s undef with | .bool b => some b | _ => none) := by
  cases h : gdst all j with
  | some s => exact yielded_eq h
  | none =>
    rw [gdst_eq] at h
    unfold yielded
    have h1 : (all.toArray[j]?).bind (·.dst) = none := by simpa using h
    rw [h1]
    rfl

theorem tmpsOf_mem {l : List Operand} {t : Nat} (h : Operand.tmp t ∈ l) : t ∈ tmpsOf l := by
  induction l with
  | nil => cases h
  | cons x r ih =>
    cases h with
    | head => simp [tmpsOf]
    | tail _ hm => cases x <;> simp [tmpsOf, ih hm]

/-- An operation's outcome hangs on the temporaries that it looks at alone. -/
theorem YV_congr {all : List Oper} {w : World} {o : Oper} {v : Value} {a c : Act} (hsel : ∀ cs b, o.op ≠ .select cs b) (hl : ∀ t ∈ looks all o, c.tmps.getD t undef = a.tmps.getD t undef) (h : YV P all w o v a) :
    YV P all w o v c := by
  have he : execOp c.eval o = execOp a.eval o := by
    refine execOp_congr o hsel fun x hx => ?_
    cases x with
    | tmp t => exact hl t (by unfold looks; exact List.mem_append_left _ (tmpsOf_mem (by simpa using hx)))
    | const v => rfl
    | global g => rfl
    | func f => rfl
  have hw : Region.wanted o (yielded all.toArray c.tmps) = Region.wanted o (yielded all.toArray a.tmps) := by
    unfold Region.wanted
    cases hg : o.guard with
    | none => rfl
    | some jt =>
      obtain ⟨j, t⟩ := jt
      simp only [yielded_gdst]
      cases hs : gdst all j with
      | none => rfl
      | some s =>
        have := hl s (by unfold looks; rw [hg]; simp [hs])
        simp only [this]
  unfold YV at *
  rw [he, hw]
  exact h

/-- No temporary is written twice. -/
def Dis (l : List Oper) : Prop := ∀ (i j : Nat) o o' d, l[i]? = some o → l[j]? = some o' → o.dst = some d → o'.dst = some d → i = j

theorem dstsOf_mem {l : List Oper} {d : Nat} : d ∈ dstsOf l ↔ ∃ o ∈ l, o.dst = some d := by
  induction l with
  | nil => simp [dstsOf]
  | cons o r ih =>
    unfold dstsOf
    split
    · rename_i k hk; simp [ih, hk, eq_comm]
    · rename_i hk; simp [ih, hk]

theorem Dis_of_noDup {l : List Oper} (h : noDup (dstsOf l) = true) : Dis l := by
  induction l with
  | nil => intro i j o o' d hi; simp at hi
  | cons q r ih =>
    have hr : noDup (dstsOf r) = true ∧ ∀ k, q.dst = some k → k ∉ dstsOf r := by
      unfold dstsOf at h
      split at h
      · rename_i k hk
        unfold noDup at h
        split at h
        · cases h
        · rename_i hm
          exact ⟨h, fun k' hk' => by rw [hk] at hk'; cases hk'; intro hc; rw [memN_iff.2 hc] at hm; cases hm⟩
      · rename_i hk; exact ⟨h, fun k' hk' => by rw [hk] at hk'; cases hk'⟩
    intro i j o o' d hi hj hd hd'
    cases i with
    | zero =>
      simp at hi; subst hi
      cases j with
      | zero => rfl
      | succ j => simp at hj; exact absurd (dstsOf_mem.2 ⟨o', List.mem_of_getElem? hj, hd'⟩) (hr.2 d hd)
    | succ i =>
      simp at hi
      cases j with
      | zero => simp at hj; subst hj; exact absurd (dstsOf_mem.2 ⟨o, List.mem_of_getElem? hi, hd⟩) (hr.2 d hd')
      | succ j => simp at hj; rw [ih hr.1 i j o o' d hi hj hd hd']

theorem put_get {a : Act} {d : Option Nat} {v : Value} (hd : ∀ k, d = some k → k < a.tmps.size) (t : Nat) :
    (a.put d v).tmps.getD t undef = if d = some t then v else a.tmps.getD t undef := by
  cases d with
  | none => simp [Act.put]
  | some k =>
    show (a.tmps.setIfInBounds k v).getD t undef = _
    rw [getD_set (hd k rfl)]
    by_cases h : k = t <;> simp [h]

theorem backB_spec : ∀ {l : List Oper} {k0 : Nat}, backB l k0 = true → ∀ (k : Nat) o, l[k]? = some o → ∀ i ∈ preds o, i < k0 + k := by
  intro l
  induction l with
  | nil => intro k0 _ k o hk; simp at hk
  | cons q r ih =>
    intro k0 h k o hk i hi
    unfold backB at h
    split at h
    · rename_i hq
      cases k with
      | zero =>
        simp at hk; subst hk
        have := allB_iff.1 hq i hi
        exact Nat.lt_of_succ_le (Nat.le_of_ble_eq_true this)
      | succ k => have := ih h k o (by simpa using hk) i hi; omega
    · cases h

theorem preds_listed {ops : List Oper} {listed : Array Bool} {i : Nat} {o : Oper} (hi : i ∈ Region.ready .any ops.toArray listed) (ho : ops[i]? = some o) : ∀ k ∈ preds o, listed.getD k false = true := by
  obtain ⟨_, o', ho', hall⟩ := mem_ready.1 hi
  have : o' = o := by simpa [ho] using ho'.symm
  subst this
  intro k hk
  simp only [preds, List.mem_map, List.mem_filter] at hk
  obtain ⟨e, ⟨he, hb⟩, rfl⟩ := hk
  exact hall e (by simpa using he) hb

theorem ready_of {ops : List Oper} {listed : Array Bool} {i : Nat} {o : Oper} (ho : ops[i]? = some o) (hu : listed.getD i true = false) (hp : ∀ k ∈ preds o, listed.getD k false = true) : i ∈ Region.ready .any ops.toArray listed := by
  refine mem_ready.2 ⟨hu, o, by simpa using ho, fun e he hb => hp _ ?_⟩
  simp only [preds, List.mem_map, List.mem_filter]
  exact ⟨e, ⟨by simpa using he, hb⟩, rfl⟩

theorem getD_f {listed : Array Bool} {i : Nat} (h : listed.getD i true = false) : listed.getD i false = false := by
  simp only [Array.getD_eq_getD_getElem?] at *
  cases hl : listed[i]? <;> simp_all

theorem getD_set' {listed : Array Bool} {i : Nat} {d : Bool} (hi : i < listed.size) (k : Nat) : (listed.setIfInBounds i true).getD k d = if i = k then true else listed.getD k d := by
  simp only [Array.getD_eq_getD_getElem?, Array.getElem?_setIfInBounds]
  split
  · rename_i h; subst h; simp [hi]
  · rfl

theorem lt_of_unlisted {listed : Array Bool} {i : Nat} (h : listed.getD i true = false) : i < listed.size := by
  rcases Nat.lt_or_ge i listed.size with h' | h'
  · exact h'
  · simp [Array.getD_eq_getD_getElem?, Array.getElem?_eq_none h'] at h

theorem wpOpIn_of_YV {all : List Oper} {i : Nat} {o : Oper} {v : Value} {a : Act} {w : World} {K : Act → World → Prop} (hi : all[i]? = some o) (hy : YV P all w o v a) (hK : K (a.put o.dst v) w) :
    wpOpIn (FW rd) 0 P all.toArray Q i K a w := by
  unfold wpOpIn
  have : all.toArray[i]? = some o := by simpa using hi
  rw [this]
  simp only
  rcases hy with ⟨hw, hr, hd⟩ | ⟨hw, rfl⟩
  · rw [if_pos hw]
    refine ⟨fun _ _ => trivial, ?_⟩
    rw [Oper.semAt_eq _ _ _ hd, hr]
    exact hK
  · rw [if_neg (by rw [hw]; simp)]
    exact ⟨fun _ _ => trivial, hK⟩

/-- How many below k are not listed yet. -/
def cu (listed : Array Bool) : Nat → Nat
  | 0 => 0
  | k + 1 => cu listed k + (if listed.getD k true then 0 else 1)

theorem cu_set {listed : Array Bool} {i : Nat} (hi : listed.getD i true = false) : ∀ k, (i < k → cu (listed.setIfInBounds i true) k + 1 = cu listed k) ∧ (k ≤ i → cu (listed.setIfInBounds i true) k = cu listed k) := by
  have hlt := lt_of_unlisted hi
  intro k
  induction k with
  | zero => exact ⟨fun h => by omega, fun _ => rfl⟩
  | succ k ih =>
    simp only [cu, getD_set' hlt]
    refine ⟨fun h => ?_, fun h => ?_⟩
    · by_cases hik : i = k
      · subst hik
        rw [if_pos rfl, ih.2 (Nat.le_refl _), hi]
        simp
      · rw [if_neg hik]
        have := ih.1 (by omega)
        omega
    · rw [if_neg (show ¬ i = k by omega), ih.2 (by omega)]

theorem cu_zero {listed : Array Bool} : ∀ {k : Nat}, cu listed k = 0 → ∀ i, i < k → listed.getD i true = true := by
  intro k
  induction k with
  | zero => intro _ i hi; omega
  | succ k ih =>
    intro h i hi
    simp only [cu] at h
    by_cases hik : i = k
    · subst hik
      cases hl : listed.getD i true with
      | true => rfl
      | false => rw [hl] at h; simp at h
    · exact ih (by omega) i (by omega)

theorem cu_pos {listed : Array Bool} : ∀ {k : Nat}, 0 < cu listed k → ∃ i, i < k ∧ listed.getD i true = false ∧ ∀ j, j < i → listed.getD j true = true := by
  intro k
  induction k with
  | zero => intro h; simp [cu] at h
  | succ k ih =>
    intro h
    by_cases hk : 0 < cu listed k
    · obtain ⟨i, hi, hu, hall⟩ := ih hk; exact ⟨i, by omega, hu, hall⟩
    · have h0 : cu listed k = 0 := by omega
      refine ⟨k, by omega, ?_, cu_zero h0⟩
      simp only [cu, h0] at h
      cases hl : listed.getD k true with
      | false => rfl
      | true => rw [hl] at h; simp at h

theorem act_ext {a b : Act} (hd : a.defers = b.defers) (hs : a.tmps.size = b.tmps.size) (ht : ∀ t, a.tmps.getD t undef = b.tmps.getD t undef) : a = b := by
  obtain ⟨ta, da⟩ := a
  obtain ⟨tb, db⟩ := b
  simp only at hd hs ht
  subst hd
  congr 1
  refine Array.ext hs fun i h1 h2 => ?_
  have := ht i
  simpa [Array.getD_eq_getD_getElem?, h1, h2] using this

theorem ready_lt {ops : List Oper} {listed : Array Bool} {i : Nat} (hi : i ∈ Region.ready .any ops.toArray listed) : ∃ o, ops[i]? = some o ∧ listed.getD i true = false := by
  obtain ⟨hu, o, ho, _⟩ := mem_ready.1 hi
  exact ⟨o, by simpa using ho, hu⟩

theorem cu_replicate (n k : Nat) (h : k ≤ n) : cu (Array.replicate n false) k = k := by
  induction k with
  | zero => rfl
  | succ k ih =>
    have : (Array.replicate n false).getD k true = false := by
      have hk : k < n := by omega
      simp [Array.getD_eq_getD_getElem?, hk]
    simp [cu, ih (by omega), this]

/-! ### Bits -/
theorem hasM_eq (m i : Nat) : hasM m i = m.testBit i := by
  unfold hasM
  show Nat.beq ((m >>> i) &&& 1) 1 = _
  rw [Nat.and_one_is_mod, Nat.shiftRight_eq_div_pow, Nat.testBit_eq_decide_div_mod_eq]
  cases h : Nat.beq (m / 2 ^ i % 2) 1 with
  | true => rw [nbeq] at h; simp [h]
  | false => rw [nbeq_no] at h; simp only [decide_eq_false_iff_not.2 h]

theorem hasM_lor (a b i : Nat) : hasM (Nat.lor a b) i = (hasM a i || hasM b i) := by
  simp only [hasM_eq]; exact Nat.testBit_or a b i
theorem hasM_zero (i : Nat) : hasM 0 i = false := by rw [hasM_eq]; simp
theorem hasM_bit (i j : Nat) : hasM (bit i) j = decide (i = j) := by
  rw [hasM_eq]
  have : bit i = 2 ^ i := by show 1 <<< i = _; rw [Nat.shiftLeft_eq]; simp
  rw [this, Nat.testBit_two_pow]
theorem subM_spec {a b : Nat} (h : subM a b = true) {i : Nat} (hi : hasM a i = true) : hasM b i = true := by
  have h1 : a &&& b = a := nbeq.1 h
  rw [hasM_eq] at *
  have h2 := congrArg (fun x => x.testBit i) h1
  simp only [Nat.testBit_and, hi, Bool.true_and] at h2
  exact h2
theorem hasM_maskOf (l : List Nat) (i : Nat) : hasM (maskOf l) i = true ↔ i ∈ l := by
  induction l with
  | nil => simp [maskOf, hasM_zero]
  | cons x r ih =>
    simp only [maskOf, hasM_lor, hasM_bit, Bool.or_eq_true, decide_eq_true_eq, ih, List.mem_cons]
    constructor
    · rintro (h | h)
      · exact .inl h.symm
      · exact .inr h
    · rintro (h | h)
      · exact .inl h.symm
      · exact .inr h
theorem some_bit {a b : Nat} (h : Nat.beq (Nat.land a b) 0 = false) : ∃ i, hasM a i = true ∧ hasM b i = true := by
  have h1 : Nat.land a b ≠ 0 := nbeq_no.1 h
  obtain ⟨i, hi⟩ := Nat.exists_testBit_of_ne_zero h1
  have hi' : (a &&& b).testBit i = true := hi
  rw [Nat.testBit_and] at hi'
  simp only [Bool.and_eq_true] at hi'
  exact ⟨i, by rw [hasM_eq]; exact hi'.1, by rw [hasM_eq]; exact hi'.2⟩

theorem nthO_eq (l : List Oper) (i : Nat) : nthO l i = l[i]? := by
  induction l generalizing i with
  | nil => rfl
  | cons x r ih => cases i with
    | zero => rfl
    | succ i => simp [nthO, ih]

theorem nthN_lt {l : List Nat} {i : Nat} (h : i < l.length) : nthN l i = l[i] := by
  induction l generalizing i with
  | nil => simp at h
  | cons x r ih => cases i with
    | zero => rfl
    | succ i => simp [nthN, ih (by simpa using h)]
theorem nthN_ge {l : List Nat} {i : Nat} (h : l.length ≤ i) : nthN l i = 0 := by
  induction l generalizing i with
  | nil => rfl
  | cons x r ih => cases i with
    | zero => simp at h
    | succ i => exact ih (by simpa using h)

/-! ### What hangs on what -/
def Closed (all : List Oper) (L : Nat → Prop) : Prop := ∀ i o, all[i]? = some o → L i → ∀ p ∈ preds o, L p

/-- All that m names are in whatever closed set holds what operation i waits for. -/
def Hung (all : List Oper) (i m : Nat) : Prop := ∀ L, Closed all L → (∀ o, all[i]? = some o → ∀ p ∈ preds o, L p) → ∀ j, hasM m j = true → L j

theorem clM_spec (cs : List Nat) : ∀ (ps : List Nat) (m j : Nat), hasM (clM cs ps m) j = true → hasM m j = true ∨ ∃ p ∈ ps, j = p ∨ hasM (nthN cs p) j = true := by
  intro ps
  induction ps with
  | nil => intro m j h; exact .inl h
  | cons p r ih =>
    intro m j h
    rcases ih _ j h with h | ⟨q, hq, h⟩
    · rw [hasM_lor, hasM_lor, hasM_bit] at h
      simp only [Bool.or_eq_true, decide_eq_true_eq] at h
      rcases h with h | h | h
      · exact .inl h
      · exact .inr ⟨p, by simp, .inl h.symm⟩
      · exact .inr ⟨p, by simp, .inr h⟩
    · exact .inr ⟨q, List.mem_cons_of_mem _ hq, h⟩

theorem closures_spec {all : List Oper} : ∀ (l done : List Oper) (cs : List Nat), all = done ++ l → cs.length = done.length → (∀ i, i < cs.length → Hung all i (nthN cs i)) → ∀ i, Hung all i (nthN (closures l cs) i) := by
  intro l
  induction l with
  | nil =>
    intro done cs _ _ h i
    rcases Nat.lt_or_ge i cs.length with hi | hi
    · exact h i hi
    · show Hung all i (nthN cs i)
      rw [nthN_ge hi]; intro L _ _ j hj; rw [hasM_zero] at hj; cases hj
  | cons o r ih =>
    intro done cs he hl h
    refine ih (done ++ [o]) (cs ++ [clM cs (preds o) 0]) (by simp [he]) (by simp [hl]) ?_
    intro i hi
    simp only [List.length_append, List.length_singleton] at hi
    rcases Nat.lt_or_ge i cs.length with hlt | hge
    · rw [nthN_lt (by simp; omega)]
      have := h i hlt
      rw [nthN_lt hlt] at this
      simpa [List.getElem_append, hlt] using this
    · have hie : i = cs.length := by omega
      subst hie
      rw [nthN_lt (by simp)]
      simp only [List.getElem_append_right (Nat.le_refl _), Nat.sub_self, List.getElem_cons_zero]
      intro L hL hp j hj
      have ho : all[cs.length]? = some o := by rw [he, hl]; simp
      rcases clM_spec cs _ _ _ hj with h0 | ⟨p, hpm, h0⟩
      · rw [hasM_zero] at h0; cases h0
      · have hLp := hp o ho p hpm
        rcases h0 with rfl | h0
        · exact hLp
        · rcases Nat.lt_or_ge p cs.length with hlt | hge'
          · refine h p hlt L hL (fun o' ho' q hq => hL p o' ho' hLp q hq) j h0
          · rw [nthN_ge hge', hasM_zero] at h0; cases h0

theorem wrOf_spec : ∀ {l : List Oper} {k0 t k : Nat} {o : Oper}, noDup (dstsOf l) = true → l[k]? = some o → o.dst = some t → wrOf l k0 t = some (k0 + k) := by
  intro l
  induction l with
  | nil => intro k0 t k o _ h; simp at h
  | cons q r ih =>
    intro k0 t k o hn hk hd
    have hD := Dis_of_noDup hn
    unfold wrOf
    split
    · rename_i hq
      cases k with
      | zero => rfl
      | succ k =>
        exfalso
        split at hq
        · rename_i d hqd
          have := nbeq.1 hq
          subst this
          have := hD 0 (k + 1) q o d (by simp) hk hqd hd
          omega
        · cases hq
    · rename_i hq
      cases k with
      | zero =>
        simp at hk; subst hk
        rw [hd] at hq
        exact absurd rfl (nbeq_no.1 hq)
      | succ k =>
        have hnr : noDup (dstsOf r) = true := by
          unfold dstsOf at hn
          split at hn
          · unfold noDup at hn
            split at hn
            · cases hn
            · exact hn
          · exact hn
        rw [ih hnr (by simpa using hk) hd]
        congr 1; omega

theorem seesB_spec {all : List Oper} {cs : List Nat} (hn : noDup (dstsOf all) = true) : ∀ {l : List Oper} {i0 : Nat}, seesB all cs l i0 = true → ∀ (i : Nat) o, l[i]? = some o → ∀ t ∈ looks all o, ∀ (k : Nat) q, all[k]? = some q → q.dst = some t →
    k ∈ preds o ∨ hasM (nthN cs k) (i0 + i) = true ∨ k = i0 + i := by
  intro l
  induction l with
  | nil => intro i0 _ i o h; simp at h
  | cons x r ih =>
    intro i0 h i o hi t ht k q hk hd
    unfold seesB at h
    split at h
    · rename_i hx
      cases i with
      | zero =>
        simp at hi; subst hi
        have h1 := allB_iff.1 hx t ht
        rw [wrOf_spec (k0 := 0) hn hk hd, Nat.zero_add] at h1
        simp only at h1
        by_cases ha : memN (preds x) k = true
        · exact .inl (memN_iff.1 ha)
        · by_cases hb : hasM (nthN cs k) i0 = true
          · exact .inr (.inl hb)
          · by_cases hc : Nat.beq k i0 = true
            · exact .inr (.inr (nbeq.1 hc))
            · simp [ha, hb, hc] at h1
      | succ i =>
        have := ih h i o (by simpa using hi) t ht k q hk hd
        rwa [show i0 + 1 + i = i0 + (i + 1) by omega] at this
    · cases h

/-- The words of the static look, spelt out. -/
structure DrawOk (P : Program) (N : Nat) (ops : List Oper) (cs : List Nat) : Prop where
  sel : ∀ o ∈ ops, ∀ cs b, o.op ≠ .select cs b
  low : ∀ o ∈ ops, ∀ d, o.dst = some d → d < N
  dis : Dis ops
  back : ∀ (k : Nat) o, ops[k]? = some o → ∀ i ∈ preds o, i < k
  sees : ∀ (i : Nat) o, ops[i]? = some o → ∀ t ∈ looks ops o, ∀ (k : Nat) q, ops[k]? = some q → q.dst = some t → k ∈ preds o ∨ hasM (nthN cs k) i = true ∨ k = i
  hung : ∀ i, Hung ops i (nthN cs i)

theorem drawOk_spec {N : Nat} {ops : List Oper} {od : OT} (h : drawOk P N ops od = true) : DrawOk P N ops (closures ops []) ∧ chkT P ops (closures ops []) od 0 0 0 false (headsM od) = true := by
  unfold drawOk at h
  split at h
  · rename_i h0 h1 h2 h3 h4 h5
    refine ⟨⟨fun o ho cs b e => ?_, fun o ho d hd => ?_, Dis_of_noDup h2, fun k o hk i hi => by simpa using backB_spec h3 k o hk i hi, fun i o hi t ht k q hk hd => ?_, ?_⟩, h4⟩
    · have := allB_iff.1 h0 o ho
      rw [e] at this; cases this
    · have := allB_iff.1 h1 d (dstsOf_mem.2 ⟨o, ho, hd⟩)
      exact Nat.lt_of_succ_le (Nat.le_of_ble_eq_true this)
    · simpa using seesB_spec h2 h5 i o hi t ht k q hk hd
    · exact closures_spec ops [] [] rfl rfl (fun i hi => by simp at hi)
  · cases h

theorem orB_iff {a b : Bool} : orB a b = true ↔ a = true ∨ b = true := by cases a <;> cases b <;> simp [orB]

theorem covB_spec {cs : List Nat} {before H : Nat} : ∀ {l : List Oper} {k0 : Nat}, covB P cs before H l k0 = true → ∀ (i : Nat) o, l[i]? = some o → quietOp P o.op = false →
    hasM before (k0 + i) = true ∨ hasM H (k0 + i) = true ∨ ∃ h, hasM H h = true ∧ hasM (nthN cs (k0 + i)) h = true := by
  intro l
  induction l with
  | nil => intro k0 _ i o h; simp at h
  | cons x r ih =>
    intro k0 h i o ho hq
    unfold covB at h
    split at h
    · rename_i h1
      cases i with
      | zero =>
        cases ho
        rw [Nat.add_zero]
        rcases orB_iff.1 h1 with h1 | h1
        · rw [hq] at h1; cases h1
        · rcases orB_iff.1 h1 with h1 | h1
          · exact .inl h1
          · rcases orB_iff.1 h1 with h1 | h1
            · exact .inr (.inl h1)
            · split at h1
              · cases h1
              · rename_i hz
                obtain ⟨j, hj1, hj2⟩ := some_bit hz
                exact .inr (.inr ⟨j, hj2, hj1⟩)
      | succ i =>
        have := ih h i o (by simpa using ho) hq
        rwa [show k0 + 1 + i = k0 + (i + 1) by omega] at this
    · cases h

/-- One step of the look at the order. -/
theorem chk_cons {ops : List Oper} {cs : List Nat} {c : Nat} {r : OT} {before since rds H : Nat} {any : Bool} (h : chkT P ops cs (.one c r) before since rds any H = true) :
    ∃ o, ops[ixOf c]? = some o ∧ (∀ p ∈ preds o, hasM before p = true) ∧ hasM before (ixOf c) = false ∧
      ((quietOp P o.op = true ∧ (any = true → ∃ p ∈ preds o, hasM since p = true) ∧
          chkT P ops cs r (Nat.lor before (bit (ixOf c))) (Nat.lor since (bit (ixOf c))) (Nat.lor rds (match readsOp o.op with | true => bit (ixOf c) | false => 0)) any (headsM r) = true) ∨
       (quietOp P o.op = false ∧ (∀ (i : Nat) q, ops[i]? = some q → quietOp P q.op = false → hasM before i = true ∨ hasM H i = true ∨ ∃ h, hasM H h = true ∧ hasM (nthN cs i) h = true) ∧
          (kpOf c = true ∨ ∀ j, hasM rds j = true → hasM (nthN cs (ixOf c)) j = true) ∧
          chkT P ops cs r (Nat.lor before (bit (ixOf c))) (bit (ixOf c)) rds true (headsM r) = true)) := by
  unfold chkT at h
  split at h
  · cases h
  · rename_i o ho
    rw [nthO_eq] at ho
    split at h
    · rename_i h1 h2
      refine ⟨o, ho, fun p hp => subM_spec h1 ((hasM_maskOf _ _).2 hp), h2, ?_⟩
      split at h
      · rename_i hq
        split at h
        · rename_i ha
          refine .inl ⟨hq, fun hany => ?_, h⟩
          rw [hany] at ha
          rcases orB_iff.1 ha with ha | ha
          · cases ha
          · split at ha
            · cases ha
            · rename_i hz
              obtain ⟨j, hj1, hj2⟩ := some_bit hz
              exact ⟨j, (hasM_maskOf _ _).1 hj1, hj2⟩
        · cases h
      · rename_i hq
        split at h
        · rename_i h3 h4
          refine .inr ⟨hq, fun i q hi hqq => by simpa using covB_spec h3 i q hi hqq, ?_, h⟩
          rcases orB_iff.1 h4 with h4 | h4
          · exact .inl h4
          · exact .inr fun j hj => subM_spec h4 hj
        · cases h
    · cases h
theorem chk_alt {ops : List Oper} {cs : List Nat} {s t : OT} {before since rds H : Nat} {any : Bool} (h : chkT P ops cs (.alt s t) before since rds any H = true) :
    hardHd P ops s = true ∧ hardHd P ops t = true ∧ chkT P ops cs s before since rds any H = true ∧ chkT P ops cs t before since rds any H = true := by
  unfold chkT at h
  split at h
  · rename_i h1 h2 h3 h4; exact ⟨h1, h2, h3, h4⟩
  · cases h

/-- All numbers in a tree; its branches. -/
def elems : OT → List Nat
  | .nil => []
  | .one c r => c :: elems r
  | .alt s t => elems s ++ elems t
def branches : OT → List (Nat × OT)
  | .nil => []
  | .one c r => [(c, r)]
  | .alt s t => branches s ++ branches t
theorem elems_branch : ∀ {t : OT} {c : Nat}, c ∈ elems t → ∃ p ∈ branches t, c = p.1 ∨ c ∈ elems p.2
  | .nil, _, h => by cases h
  | .one c r, c', h => ⟨(c, r), by simp [branches], List.mem_cons.1 h⟩
  | .alt s t, c', h => by
    rcases List.mem_append.1 h with h | h
    · obtain ⟨p, hp, hc⟩ := elems_branch h
      exact ⟨p, List.mem_append_left _ hp, hc⟩
    · obtain ⟨p, hp, hc⟩ := elems_branch h
      exact ⟨p, List.mem_append_right _ hp, hc⟩
theorem chk_branch {ops : List Oper} {cs : List Nat} {before since rds H : Nat} {any : Bool} : ∀ {t : OT}, chkT P ops cs t before since rds any H = true → ∀ p ∈ branches t, chkT P ops cs (.one p.1 p.2) before since rds any H = true
  | .nil, _, p, hp => by cases hp
  | .one c r, h, p, hp => by simp only [branches, List.mem_singleton] at hp; subst hp; exact h
  | .alt s t, h, p, hp => by
    obtain ⟨_, _, h1, h2⟩ := chk_alt h
    rcases List.mem_append.1 hp with hp | hp
    · exact chk_branch h1 p hp
    · exact chk_branch h2 p hp
theorem vc_branch {N : Nat} {ops : List Oper} {K : St → World → Prop} {st : St} {bs : Option (List Nat)} {wr w : World} : ∀ {t : OT}, vcOrd P N ops t K bs wr st w → ∀ p ∈ branches t, vcOrd P N ops (.one p.1 p.2) K bs wr st w
  | .nil, _, p, hp => by cases hp
  | .one c r, h, p, hp => by simp only [branches, List.mem_singleton] at hp; subst hp; exact h
  | .alt s t, h, p, hp => by
    rw [vcOrd] at h
    rcases List.mem_append.1 hp with hp | hp
    · exact vc_branch h.1 p hp
    · exact vc_branch h.2 p hp
theorem heads_branch : ∀ {t : OT} {i : Nat}, hasM (headsM t) i = true → ∃ p ∈ branches t, ixOf p.1 = i
  | .nil, i, h => by rw [headsM, hasM_zero] at h; cases h
  | .one c r, i, h => by rw [headsM, hasM_bit, decide_eq_true_eq] at h; exact ⟨(c, r), by simp [branches], h⟩
  | .alt s t, i, h => by
    rw [headsM, hasM_lor, Bool.or_eq_true] at h
    rcases h with h | h
    · obtain ⟨p, hp, e⟩ := heads_branch h
      exact ⟨p, List.mem_append_left _ hp, e⟩
    · obtain ⟨p, hp, e⟩ := heads_branch h
      exact ⟨p, List.mem_append_right _ hp, e⟩
theorem hard_some {ops : List Oper} : ∀ {t : OT}, hardHd P ops t = true → ∃ p, p ∈ branches t
  | .nil, h => by cases h
  | .one c r, _ => ⟨(c, r), by simp [branches]⟩
  | .alt s t, h => by
    unfold hardHd at h
    split at h
    · rename_i h1
      obtain ⟨p, hp⟩ := hard_some h1
      exact ⟨p, List.mem_append_left _ hp⟩
    · cases h
theorem hard_branch {ops : List Oper} : ∀ {t : OT}, hardHd P ops t = true → ∀ p ∈ branches t, ∀ o, ops[ixOf p.1]? = some o → quietOp P o.op = false
  | .nil, h, _, _, _, _ => by cases h
  | .one c r, h, p, hp, o, ho => by
    simp only [branches, List.mem_singleton] at hp; subst hp
    unfold hardHd at h
    rw [nthO_eq, ho] at h
    dsimp only at h
    split at h
    · cases h
    · assumption
  | .alt s t, h, p, hp, o, ho => by
    unfold hardHd at h
    split at h
    · rename_i h1
      rcases List.mem_append.1 hp with hp | hp
      · exact hard_branch h1 p hp o ho
      · exact hard_branch h p hp o ho
    · cases h

/-- Behind the first that is not quiet each quiet one waits for somebody who has not been carried out yet. -/
theorem chk_late {ops : List Oper} {cs : List Nat} {B0 : Nat} : ∀ (od : OT) (before since rds H : Nat), chkT P ops cs od before since rds true H = true → (∀ j, hasM B0 j = true → hasM before j = true) →
    (∀ j, hasM since j = true → hasM B0 j = false) → ∀ c ∈ elems od, ∀ o, ops[ixOf c]? = some o → quietOp P o.op = true → ∃ p ∈ preds o, hasM B0 p = false := by
  intro od
  induction od with
  | nil => intro _ _ _ _ _ _ _ c hc; cases hc
  | alt s t ihs iht =>
    intro before since rds H h hB hS c hc o ho hq
    obtain ⟨_, _, h1, h2⟩ := chk_alt h
    rcases List.mem_append.1 hc with hc | hc
    · exact ihs _ _ _ _ h1 hB hS c hc o ho hq
    · exact iht _ _ _ _ h2 hB hS c hc o ho hq
  | one x r ih =>
    intro before since rds H h hB hS c hc o ho hq
    obtain ⟨ox, hox, hpb, hnb, hcase⟩ := chk_cons h
    have hxB : hasM B0 (ixOf x) = false := by
      cases hx : hasM B0 (ixOf x) with
      | false => rfl
      | true => rw [hB _ hx] at hnb; cases hnb
    have hB' : ∀ j, hasM B0 j = true → hasM (Nat.lor before (bit (ixOf x))) j = true := fun j hj => by rw [hasM_lor, hB j hj]; rfl
    rcases hcase with ⟨hqx, hany, hr⟩ | ⟨hqx, _, _, hr⟩
    · rcases List.mem_cons.1 hc with rfl | hc
      · rw [ho] at hox; cases hox
        obtain ⟨p, hp, hs⟩ := hany rfl
        exact ⟨p, hp, hS p hs⟩
      · refine ih _ _ _ _ hr hB' (fun j hj => ?_) c hc o ho hq
        rw [hasM_lor, hasM_bit] at hj
        simp only [Bool.or_eq_true, decide_eq_true_eq] at hj
        rcases hj with hj | rfl
        · exact hS j hj
        · exact hxB
    · rcases List.mem_cons.1 hc with rfl | hc
      · rw [ho] at hox; cases hox; rw [hq] at hqx; cases hqx
      · refine ih _ _ _ _ hr hB' (fun j hj => ?_) c hc o ho hq
        rw [hasM_bit, decide_eq_true_eq] at hj
        subst hj
        exact hxB

/-- Everybody is carried out, or will be. -/
theorem chk_all {ops : List Oper} {cs : List Nat} : ∀ (od : OT) (before since rds H : Nat) (any : Bool), chkT P ops cs od before since rds any H = true → ∀ i, i < ops.length → hasM before i = true ∨ ∃ c ∈ elems od, ixOf c = i := by
  intro od
  induction od with
  | nil =>
    intro before _ _ _ _ h i hi
    unfold chkT at h
    exact .inl (subM_spec h ((hasM_maskOf _ _).2 (List.mem_range.2 hi)))
  | alt s t ihs iht =>
    intro before since rds H any h i hi
    obtain ⟨_, _, h1, _⟩ := chk_alt h
    rcases ihs _ _ _ _ _ h1 i hi with h | ⟨c, hc, e⟩
    · exact .inl h
    · exact .inr ⟨c, List.mem_append_left _ hc, e⟩
  | one x r ih =>
    intro before since rds H any h i hi
    obtain ⟨ox, hox, hpb, hnb, hcase⟩ := chk_cons h
    have key : hasM (Nat.lor before (bit (ixOf x))) i = true ∨ (∃ c ∈ elems r, ixOf c = i) → hasM before i = true ∨ ∃ c ∈ elems (.one x r), ixOf c = i := by
      rintro (h1 | ⟨c, hc, h1⟩)
      · rw [hasM_lor, hasM_bit] at h1
        simp only [Bool.or_eq_true, decide_eq_true_eq] at h1
        rcases h1 with h1 | h1
        · exact .inl h1
        · exact .inr ⟨x, by simp [elems], h1⟩
      · exact .inr ⟨c, List.mem_cons_of_mem _ hc, h1⟩
    rcases hcase with ⟨_, _, hr⟩ | ⟨_, _, _, hr⟩
    · exact key (ih _ _ _ _ _ hr i hi)
    · exact key (ih _ _ _ _ _ hr i hi)

/-! ### One step -/
/-- The value of a quiet operation, wherever what it reads lies as it lay. -/
def YR (P : Program) (all : List Oper) (S : Nat → Prop) (w : World) (o : Oper) (v : Value) (a : Act) : Prop := ∀ w1, (readsOp o.op = true → ∀ k, S k → w1.heap[k]? = w.heap[k]?) → YV P all w1 o v a
/-- The world at the last one that read. -/
def nextR (o : Oper) (wr w : World) : World := match readsOp o.op with | true => w | false => wr
/-- The blocks that were read. -/
def nextS (st : St) (o : Oper) (bs : Option (List Nat)) : Option (List Nat) := match readsOp o.op with
  | false => bs
  | true => match rdSet st o, bs with
    | some b, some l => some (b :: l)
    | _, _ => none
/-- What an operation reads. -/
def opS (st : St) (o : Oper) (w : World) (k : Nat) : Prop := k < w.heap.size ∧ ∀ b, rdSet st o = some b → k = b

theorem pickR_next {st : St} {o : Oper} {wr w : World} {bs : Option (List Nat)} {F : World → Option (List Nat) → Prop} (h : pickR (readsOp o.op) (rdSet st o) w wr bs F) : F (nextR o wr w) (nextS st o bs) := by
  unfold nextR nextS
  unfold pickR at h
  cases hr : readsOp o.op with
  | false => rw [hr] at h; exact h
  | true =>
    rw [hr] at h
    dsimp only at h ⊢
    cases hx : rdSet st o with
    | none => rw [hx] at h; exact h
    | some b =>
      rw [hx] at h
      cases bs with
      | none => exact h
      | some l => exact h

theorem inR_next {st : St} {o : Oper} {wr w : World} {bs : Option (List Nat)} {k : Nat} (h : inR bs wr k ∨ (readsOp o.op = true ∧ opS st o w k)) (hw : k < w.heap.size) : inR (nextS st o bs) (nextR o wr w) k := by
  unfold nextR nextS
  cases hr : readsOp o.op with
  | false =>
    dsimp only
    rcases h with h | ⟨h, _⟩
    · exact h
    · rw [hr] at h; cases h
  | true =>
    dsimp only
    cases hx : rdSet st o with
    | none => exact hw
    | some b =>
      cases bs with
      | none => exact hw
      | some l =>
        rcases h with h | ⟨_, _, h⟩
        · exact List.mem_cons_of_mem _ h
        · rw [h b hx]; exact List.mem_cons_self

/-- A load looks at its own block alone. -/
theorem load_at {o : Oper} {st : St} {a : Act} {N : Nat} {w : World} {F : SV → World → Prop} {b : Nat} (hb : rdSet st o = some b) (h : Agree N st a) (hv : valOp P st o w F) :
    o.guard = none ∧ ∃ x, F x w ∧ ∀ w1, (b < w.heap.size → w1.heap[b]? = w.heap[b]?) → (execOp a.eval o).run P w1 = .ok (.value x.den) w1 := by
  obtain ⟨dst, op, oty, pos, after, gd⟩ := o
  unfold rdSet at hb
  dsimp only at hb
  cases gd with
  | some g => cases hb
  | none =>
    refine ⟨rfl, ?_⟩
    cases op with
    | load t x =>
      dsimp only at hb
      unfold valOp at hv
      simp only [pureOp] at hv
      split at hv
      · rename_i y ty hx hty
        obtain ⟨b', o', hp, hv⟩ := asPtr_out hv
        obtain ⟨r, hv, hr⟩ := loadT_out hty hv
        have hbb : b' = b := by
          rw [hx] at hb
          unfold blkOf at hb
          split at hb
          · rename_i e
            cases hb; cases e
            simp only [SV.den, Value.pointer.injEq, Option.some.injEq, Addr.mk.injEq] at hp
            exact hp.1.symm
          · rename_i e
            cases hb; cases e
            simp only [SV.den, Value.pointer.injEq, Option.some.injEq, Addr.mk.injEq] at hp
            exact hp.1.symm
          · cases hb
        subst hbb
        refine ⟨r, hv, fun w1 hs => ?_⟩
        simp [execOp, Instr.loadAt, ev_sound h (.nil a) hx, hp, Instr.sureAddr, hr w1 hs]
      · exact hv.elim
    | _ => cases hb

theorem vcOrd_step {N : Nat} {all : List Oper} {c : Nat} {o : Oper} {rest : OT} {K : St → World → Prop} {st : St} {a : Act} {bs : Option (List Nat)} {wr w : World} {ws : List (Nat × TypeId)} (hws : ∀ i, inW (wrOps all) i = true → inW ws i = true)
    (hgd : ∀ d ∈ st.ge, inW ws d.s = true) (ho : all[ixOf c]? = some o) (h : Agree N st a) (hv : vcOrd P N all (.one c rest) K bs wr st w) :
    (Region.wanted o (yielded all.toArray a.tmps) = true ∧ ∃ st1, Agree N st1 a ∧ Fr ws st st1 ∧ (o.guard = none → st1 = st) ∧ st1.ge = st.ge ∧ okDst N st1 o.dst = true ∧ oneOp P st1 o w fun x w' => (kpOf c = true → SameTo bs wr w w') ∧ vcOrd P N all rest K (nextS st o bs) (nextR o wr w) (put st1 o.dst x) w') ∨
    (∃ v st2, (∀ w1, YV P all w1 o v a) ∧ Agree N st2 (a.put o.dst v) ∧ Fr ws st st2 ∧ (∀ d ∈ st2.ge, inW ws d.s = true) ∧ vcOrd P N all rest K (nextS st o bs) (nextR o wr w) st2 w) := by
  have hmem : o ∈ all := List.mem_of_getElem? ho
  have hdst : ∀ k, o.dst = some k → inW ws k = true := fun k hk => hws _ (wrOps_mem hmem hk)
  have split : ∀ (st1 : St) (w' : World), (match kpOf c with
      | true => SameTo bs wr w w' ∧ vcOrd P N all rest K (nextS st o bs) (nextR o wr w) st1 w'
      | false => vcOrd P N all rest K (nextS st o bs) (nextR o wr w) st1 w') ↔ ((kpOf c = true → SameTo bs wr w w') ∧ vcOrd P N all rest K (nextS st o bs) (nextR o wr w) st1 w') := by
    intro st1 w'
    cases kpOf c <;> simp
  unfold vcOrd at hv
  rw [nthO_eq, ho] at hv
  dsimp only at hv
  split at hv
  · exact hv.elim
  rename_i hok
  replace hv := pickR_next hv
  split at hv
  · rename_i hg
    refine .inl ⟨wanted_none hg, st, h, .refl _ _, fun _ => rfl, rfl, hok, ?_⟩
    have e : (fun (v : SV) (w' : World) => match kpOf c with
        | true => SameTo bs wr w w' ∧ vcOrd P N all rest K (nextS st o bs) (nextR o wr w) (put st o.dst v) w'
        | false => vcOrd P N all rest K (nextS st o bs) (nextR o wr w) (put st o.dst v) w') = fun x w' => (kpOf c = true → SameTo bs wr w w') ∧ vcOrd P N all rest K (nextS st o bs) (nextR o wr w) (put st o.dst x) w' := by
      funext v w'; exact propext (split _ _)
    rw [← e]; exact hv
  · rename_i j t hg
    split at hv
    · exact hv.elim
    rename_i s hs
    obtain ⟨og, hogm, hogd, _⟩ := gdst_spec hs
    rcases gstep_sound (hws _ (wrOps_mem hogm hogd)) hdst (wanted_some (a := a) hg hs) [(), (), (), ()] st hgd h hok hv with ⟨e1, st1, e2, e3, e4, e5, e6⟩ | ⟨v, st2, e1, e2, e3, e4, e5⟩
    · refine .inl ⟨e1, st1, e2, e3, fun hn => (by rw [hg] at hn; cases hn), e4, e5, ?_⟩
      have e : (fun (x : SV) (w' : World) => match kpOf c with
          | true => SameTo bs wr w w' ∧ vcOrd P N all rest K (nextS st o bs) (nextR o wr w) (put st1 o.dst x) w'
          | false => vcOrd P N all rest K (nextS st o bs) (nextR o wr w) (put st1 o.dst x) w') = fun x w' => (kpOf c = true → SameTo bs wr w w') ∧ vcOrd P N all rest K (nextS st o bs) (nextR o wr w) (put st1 o.dst x) w' := by
        funext v w'; exact propext (split _ _)
      rw [← e]; exact e6
    · exact .inr ⟨v, st2, e1, e2, e3, e4, ((split _ _).1 e5).2⟩

/-- A quiet one. -/
theorem vcOrd_quiet {N : Nat} {all : List Oper} {c : Nat} {o : Oper} {rest : OT} {K : St → World → Prop} {st : St} {a : Act} {bs : Option (List Nat)} {wr w : World} {ws : List (Nat × TypeId)} (hws : ∀ i, inW (wrOps all) i = true → inW ws i = true)
    (hgd : ∀ d ∈ st.ge, inW ws d.s = true) (ho : all[ixOf c]? = some o) (hq : quietOp P o.op = true) (h : Agree N st a) (hv : vcOrd P N all (.one c rest) K bs wr st w) :
    ∃ v st2, YR P all (opS st o w) w o v a ∧ Agree N st2 (a.put o.dst v) ∧ Fr ws st st2 ∧ (∀ d ∈ st2.ge, inW ws d.s = true) ∧ vcOrd P N all rest K (nextS st o bs) (nextR o wr w) st2 w := by
  have hmem : o ∈ all := List.mem_of_getElem? ho
  rcases vcOrd_step hws hgd ho h hv with ⟨hw, st1, h1, hf1, hst1, hge1, hok1, hone⟩ | ⟨v, st2, e1, e2, e3, e4, e5⟩
  · have hval : valOp P st1 o w fun x w' => (kpOf c = true → SameTo bs wr w w') ∧ vcOrd P N all rest K (nextS st o bs) (nextR o wr w) (put st1 o.dst x) w' := by
      unfold oneOp at hone
      split at hone
      · rename_i cl hop
        rw [hop] at hq
        simp only [quietOp] at hq
        split at hone
        · rename_i heq; rw [heq] at hq; cases hq
        · exact hone
      · exact hone
    have hx : ∃ x, ((kpOf c = true → SameTo bs wr w w) ∧ vcOrd P N all rest K (nextS st o bs) (nextR o wr w) (put st1 o.dst x) w) ∧
        ∀ w1, (readsOp o.op = true → ∀ k, opS st o w k → w1.heap[k]? = w.heap[k]?) → (execOp a.eval o).run P w1 = .ok (.value x.den) w1 := by
      cases hrs : rdSet st o with
      | none =>
        obtain ⟨x, w', _, hF, hqq⟩ := val_sound h1 hval
        obtain ⟨rfl, hrun⟩ := hqq hq
        exact ⟨x, hF, fun w1 hs => hrun w1 fun h k hk => hs h k ⟨hk, fun b hb => by rw [hrs] at hb; cases hb⟩⟩
      | some b =>
        have hgn : o.guard = none := by
          unfold rdSet at hrs
          split at hrs
          · cases hrs
          · assumption
        have hs1 := hst1 hgn
        subst hs1
        obtain ⟨_, x, hF, hrun⟩ := load_at hrs h1 hval
        have hrd : readsOp o.op = true := by
          unfold rdSet at hrs
          split at hrs
          · cases hrs
          · split at hrs
            · rename_i e; rw [e]; rfl
            · cases hrs
        exact ⟨x, hF, fun w1 hs => hrun w1 fun hb => hs hrd b ⟨hb, fun b' hb' => by rw [hrs] at hb'; cases hb'; rfl⟩⟩
    obtain ⟨x, hF, hrun⟩ := hx
    refine ⟨x.den, put st1 o.dst x, fun w1 hs => .inl ⟨hw, hrun w1 (fun h k hk => hs h k hk), valOp_defer hval⟩, h1.put hok1, hf1.trans (Fr.put fun k hk => hws _ (wrOps_mem hmem hk)), ?_, hF.2⟩
    rw [put_ge, hge1]; exact hgd
  · exact ⟨v, st2, fun w1 _ => e1 w1, e2, e3, e4, e5⟩

theorem exec_congr {all : List Oper} {o : Oper} {a c : Act} (hsel : ∀ cs b, o.op ≠ .select cs b) (hl : ∀ t ∈ looks all o, c.tmps.getD t undef = a.tmps.getD t undef) :
    execOp c.eval o = execOp a.eval o ∧ Region.wanted o (yielded all.toArray c.tmps) = Region.wanted o (yielded all.toArray a.tmps) := by
  constructor
  · refine execOp_congr o hsel fun x hx => ?_
    cases x with
    | tmp t => exact hl t (by unfold looks; exact List.mem_append_left _ (tmpsOf_mem (by simpa using hx)))
    | const v => rfl
    | global g => rfl
    | func f => rfl
  · unfold Region.wanted
    cases hg : o.guard with
    | none => rfl
    | some jt =>
      obtain ⟨j, t⟩ := jt
      simp only [yielded_gdst]
      cases hs : gdst all j with
      | none => rfl
      | some s =>
        have := hl s (by unfold looks; rw [hg]; simp [hs])
        simp only [this]

theorem oneOp_select {st : St} {o : Oper} {w : World} {F : SV → World → Prop} (h : oneOp P st o w F) (cs : Array SelectCase) (b : Bool) : o.op ≠ .select cs b := by
  intro e
  unfold oneOp at h
  rw [e] at h
  simp [valOp, pureOp, e] at h

/-- One that is not quiet, carried out at another act that agrees on what it looks at. -/
theorem vcOrd_heavy {N : Nat} {all : List Oper} {c : Nat} {o : Oper} {rest : OT} {K : St → World → Prop} {st : St} {a b : Act} {bs : Option (List Nat)} {wr w : World} {ws : List (Nat × TypeId)} (hws : ∀ i, inW (wrOps all) i = true → inW ws i = true)
    (hgd : ∀ d ∈ st.ge, inW ws d.s = true) (ho : all[ixOf c]? = some o) (hsel : ∀ cs b, o.op ≠ .select cs b) (h : Agree N st a) (hv : vcOrd P N all (.one c rest) K bs wr st w) (hl : ∀ t ∈ looks all o, b.tmps.getD t undef = a.tmps.getD t undef)
    {next : Act → World → Prop} (hn : ∀ v st2 w', Agree N st2 (a.put o.dst v) → Fr ws st st2 → (∀ d ∈ st2.ge, inW ws d.s = true) → (kpOf c = true → SameTo bs wr w w') → vcOrd P N all rest K (nextS st o bs) (nextR o wr w) st2 w' → next (b.put o.dst v) w') :
    wpOpIn (FW rd) 0 P all.toArray Q (ixOf c) next b w := by
  have hmem : o ∈ all := List.mem_of_getElem? ho
  rcases vcOrd_step hws hgd ho h hv with ⟨hw, st1, h1, hf1, _, hge1, hok1, hone⟩ | ⟨v, st2, e1, e2, e3, e4, e5⟩
  · obtain ⟨x1, x2⟩ := exec_congr (oneOp_select hone) hl
    unfold wpOpIn
    rw [show all.toArray[ixOf c]? = some o by simpa using ho]
    simp only
    rw [x2, if_pos hw]
    refine oneOp_sound2 h1 x1 hone fun x w' hx => ?_
    refine hn x.den _ w' (h1.put hok1) (hf1.trans (Fr.put fun k hk => hws _ (wrOps_mem hmem hk))) ?_ hx.1 hx.2
    rw [put_ge, hge1]; exact hgd
  · have hy := YV_congr (c := b) hsel hl (e1 w)
    exact wpOpIn_of_YV ho hy (hn v st2 w e2 e3 e4 (fun _ _ _ _ => rfl) e5)


/-! ### Any order -/
/-- The temporaries: those that somebody of S writes hold what he put; the others are as they were. -/
structure GVal (ops : List Oper) (a0 : Act) (val : Nat → Value) (S : Nat → Prop) (a : Act) : Prop where
  size : a.tmps.size = a0.tmps.size
  defers : a.defers = a0.defers
  new : ∀ t (k : Nat) o, ops[k]? = some o → o.dst = some t → S k → a.tmps.getD t undef = val k
  old : ∀ t, (∀ (k : Nat) o, ops[k]? = some o → o.dst = some t → ¬ S k) → a.tmps.getD t undef = a0.tmps.getD t undef

/-- What an operation sees: what those put for whom it waits; the rest as it was. -/
def Sees (ops : List Oper) (a0 : Act) (val : Nat → Value) (o : Oper) (a : Act) : Prop :=
  ∀ t ∈ looks ops o, (∀ (k : Nat) q, ops[k]? = some q → q.dst = some t → k ∈ preds o → a.tmps.getD t undef = val k) ∧
    ((∀ (k : Nat) q, ops[k]? = some q → q.dst = some t → k ∉ preds o) → a.tmps.getD t undef = a0.tmps.getD t undef)

theorem Sees.agree {ops : List Oper} {a0 a b : Act} {val : Nat → Value} {o : Oper} (h : Sees ops a0 val o a) (k : Sees ops a0 val o b) : ∀ t ∈ looks ops o, b.tmps.getD t undef = a.tmps.getD t undef := by
  intro t ht
  by_cases hex : ∃ (k : Nat) (q : Oper), ops[k]? = some q ∧ q.dst = some t ∧ k ∈ preds o
  · obtain ⟨i, q, h1, h2, h3⟩ := hex
    rw [(h t ht).1 i q h1 h2 h3, (k t ht).1 i q h1 h2 h3]
  · have hno : ∀ (k : Nat) q, ops[k]? = some q → q.dst = some t → k ∉ preds o := fun i q h1 h2 h3 => hex ⟨i, q, h1, h2, h3⟩
    rw [(h t ht).2 hno, (k t ht).2 hno]

theorem GVal.sees {N : Nat} {ops : List Oper} {cs : List Nat} (D : DrawOk P N ops cs) {a0 a : Act} {val : Nat → Value} {S : Nat → Prop} (h : GVal ops a0 val S a) (hS : Closed ops S) {i : Nat} {o : Oper} (ho : ops[i]? = some o)
    (hi : ¬ S i) (hp : ∀ p ∈ preds o, S p) : Sees ops a0 val o a := by
  intro t ht
  refine ⟨fun k q hk hd hm => h.new t k q hk hd (hp k hm), fun hno => h.old t fun k q hk hd hSk => ?_⟩
  rcases D.sees i o ho t ht k q hk hd with h1 | h1 | h1
  · exact hno k q hk hd h1
  · exact hi (D.hung k S hS (fun q' hq' p hpm => hS k q' hq' hSk p hpm) i h1)
  · subst h1; exact hi hSk

theorem GVal.put {N : Nat} {ops : List Oper} {cs : List Nat} (D : DrawOk P N ops cs) {a0 a : Act} (hN : a0.tmps.size = N) {val : Nat → Value} {S S' : Nat → Prop} (h : GVal ops a0 val S a) {i : Nat} {o : Oper} (ho : ops[i]? = some o) {v : Value}
    (hv : val i = v) (hS : ∀ k, S' k ↔ (S k ∨ k = i)) : GVal ops a0 val S' (a.put o.dst v) := by
  have hlt : ∀ k, o.dst = some k → k < a.tmps.size := fun k hk => by rw [h.size, hN]; exact D.low o (List.mem_of_getElem? ho) k hk
  refine ⟨by cases o.dst <;> simp [Act.put, h.size], by cases o.dst <;> simp [Act.put, h.defers], fun t k q hk hd hSk => ?_, fun t hno => ?_⟩
  · rw [put_get hlt]
    rcases (hS k).1 hSk with h1 | rfl
    · by_cases he : o.dst = some t
      · have := D.dis i k o q t ho hk he hd
        subst this
        rw [if_pos he, hv]
      · rw [if_neg he]; exact h.new t k q hk hd h1
    · rw [ho] at hk; cases hk
      rw [if_pos hd, hv]
  · rw [put_get hlt, if_neg (fun he => hno i o ho he ((hS i).2 (.inr rfl)))]
    exact h.old t fun k q hk hd hSk => hno k q hk hd ((hS k).2 (.inl hSk))

theorem GVal.val_congr {ops : List Oper} {a0 a : Act} {val val' : Nat → Value} {S : Nat → Prop} (h : GVal ops a0 val S a) (he : ∀ k, S k → val' k = val k) : GVal ops a0 val' S a :=
  ⟨h.size, h.defers, fun t k o hk hd hS => by rw [he k hS]; exact h.new t k o hk hd hS, h.old⟩

def upd (f : Nat → Value) (i : Nat) (v : Value) : Nat → Value := fun j => if j = i then v else f j

/-- Where the look at the order stands. -/
structure At0 (P : Program) (ops : List Oper) (before rds : Nat) : Prop where
  closed : Closed ops (fun i => hasM before i = true)
  reads : ∀ (i : Nat) o, ops[i]? = some o → hasM before i = true → quietOp P o.op = true → readsOp o.op = true → hasM rds i = true

theorem At0.add {ops : List Oper} {before rds : Nat} (h : At0 P ops before rds) {i : Nat} {o : Oper} (ho : ops[i]? = some o) (hp : ∀ p ∈ preds o, hasM before p = true) {rds' : Nat}
    (hr : ∀ j, hasM rds j = true → hasM rds' j = true) (hi : quietOp P o.op = true → readsOp o.op = true → hasM rds' i = true) : At0 P ops (Nat.lor before (bit i)) rds' := by
  have hor : ∀ j, hasM (Nat.lor before (bit i)) j = true ↔ (hasM before j = true ∨ i = j) := fun j => by rw [hasM_lor, hasM_bit]; simp
  constructor
  · intro j q hq hj p hpm
    rw [hor] at hj ⊢
    rcases hj with hj | rfl
    · exact .inl (h.closed j q hq hj p hpm)
    · rw [ho] at hq; cases hq; exact .inl (hp p hpm)
  · intro j q hq hj hqq hrd
    rw [hor] at hj
    rcases hj with hj | rfl
    · exact hr j (h.reads j q hq hj hqq hrd)
    · rw [ho] at hq; cases hq; exact hi hqq hrd

/-- Those carried out on paper that are not listed yet: quiet, and their value stands. -/
def Pend (P : Program) (ops : List Oper) (a0 : Act) (val : Nat → Value) (before : Nat) (L : Nat → Prop) (S : Nat → Prop) (w : World) : Prop :=
  ∀ (i : Nat) o, ops[i]? = some o → hasM before i = true → ¬ L i → quietOp P o.op = true ∧ ∀ c, Sees ops a0 val o c → YR P ops S w o (val i) c

/-- The look goes on over quiet ones, up to the next that is not quiet. -/
theorem run_quiets {N : Nat} {ops : List Oper} {cs : List Nat} (D : DrawOk P N ops cs) {K : St → World → Prop} {ws : List (Nat × TypeId)} {st0 : St} (hws : ∀ i, inW (wrOps ops) i = true → inW ws i = true) {a0 : Act} (hN : a0.tmps.size = N) {w : World} {L : Nat → Prop} :
    ∀ (od : OT) (st : St) (a : Act) (val : Nat → Value) (before since rds : Nat) (any : Bool) (bs : Option (List Nat)) (wr : World) (S : Nat → Prop), chkT P ops cs od before since rds any (headsM od) = true → vcOrd P N ops od K bs wr st w → Agree N st a → Fr ws st0 st → (∀ d ∈ st.ge, inW ws d.s = true) →
      At0 P ops before rds → GVal ops a0 val (fun i => hasM before i = true) a → Pend P ops a0 val before L S w → (∀ i, L i → hasM before i = true) → (∀ k, S k → inR bs wr k) → (∀ k, S k → k < w.heap.size) →
      ∃ (od' : OT) (st' : St) (a' : Act) (val' : Nat → Value) (before' since' rds' : Nat) (bs' : Option (List Nat)) (wr' : World) (S' : Nat → Prop),
        (od' = .nil ∨ hardHd P ops od' = true) ∧ chkT P ops cs od' before' since' rds' any (headsM od') = true ∧ vcOrd P N ops od' K bs' wr' st' w ∧ Agree N st' a' ∧ Fr ws st0 st' ∧ (∀ d ∈ st'.ge, inW ws d.s = true) ∧
        At0 P ops before' rds' ∧ GVal ops a0 val' (fun i => hasM before' i = true) a' ∧ Pend P ops a0 val' before' L S' w ∧ (∀ i, L i → hasM before' i = true) ∧ (∀ k, S' k → inR bs' wr' k) ∧ (∀ k, S' k → k < w.heap.size) ∧ (∀ i, hasM before i = true → hasM before' i = true ∧ val' i = val i) := by
  intro od
  induction od with
  | nil => intro st a val before since rds any bs wr S h1 h2 h3 h4 h5 h6 h7 h8 h9 h10 h11; exact ⟨.nil, st, a, val, before, since, rds, bs, wr, S, .inl rfl, h1, h2, h3, h4, h5, h6, h7, h8, h9, h10, h11, fun i hi => ⟨hi, rfl⟩⟩
  | alt s t _ _ =>
    intro st a val before since rds any bs wr S h1 h2 h3 h4 h5 h6 h7 h8 h9 h10 h11
    obtain ⟨g1, g2, _, _⟩ := chk_alt h1
    exact ⟨.alt s t, st, a, val, before, since, rds, bs, wr, S, .inr (by simp only [hardHd, g1, g2]), h1, h2, h3, h4, h5, h6, h7, h8, h9, h10, h11, fun i hi => ⟨hi, rfl⟩⟩
  | one c r ih =>
    intro st a val before since rds any bs wr S h1 h2 h3 h4 h5 h6 h7 h8 h9 h10 h11
    obtain ⟨o, ho, hpb, hnb, hcase⟩ := chk_cons h1
    rcases hcase with ⟨hq, _, hr⟩ | ⟨hq, _⟩
    · obtain ⟨v, st2, hy, hag, hfr, hgd, hrest⟩ := vcOrd_quiet hws h5 ho hq h3 h2
      have hnb' : ¬ hasM before (ixOf c) = true := by rw [hnb]; simp
      have hor : ∀ j, hasM (Nat.lor before (bit (ixOf c))) j = true ↔ (hasM before j = true ∨ j = ixOf c) := fun j => by rw [hasM_lor, hasM_bit]; simp only [Bool.or_eq_true, decide_eq_true_eq]; exact or_congr Iff.rfl ⟨Eq.symm, Eq.symm⟩
      have hval : ∀ k, hasM before k = true → upd val (ixOf c) v k = val k := fun k hk => by
        unfold upd; rw [if_neg]; intro e; rw [e] at hk; exact hnb' hk
      have hsees := h7.sees D h6.closed ho hnb' hpb
      obtain ⟨od', st', a', val', before', since', rds', bs', wr', S', e1, e2, e3, e4, e5, e6, e7, e8, e9, e10, e12, e13, e11⟩ := ih st2 (a.put o.dst v) (upd val (ixOf c) v) _ _ _ any (nextS st o bs) (nextR o wr w) (fun k => S k ∨ (readsOp o.op = true ∧ opS st o w k)) hr hrest hag (h4.trans hfr) hgd
        (h6.add ho hpb (fun j hj => by rw [hasM_lor, hj]; rfl) (fun _ hrd => by rw [hasM_lor, hrd]; simp [hasM_bit]))
        ((h7.val_congr hval).put D hN ho (by simp [upd]) hor)
        (fun i q hqi hi hLi => by
          rw [hor] at hi
          rcases hi with hi | rfl
          · obtain ⟨k1, k2⟩ := h8 i q hqi hi hLi
            have hvi : upd val (ixOf c) v i = val i := hval i hi
            refine ⟨k1, fun c' hs => ?_⟩
            rw [hvi]
            intro w1 hw1
            refine k2 c' (fun t ht => ⟨fun k p hk hd hm => ?_, (hs t ht).2⟩) w1 fun hrd k hk => hw1 hrd k (.inl hk)
            rw [(hs t ht).1 k p hk hd hm]
            exact hval k (h6.closed i q hqi hi k hm)
          · rw [ho] at hqi; cases hqi
            refine ⟨hq, fun c' hs w1 hs1 => ?_⟩
            have hs' : Sees ops a0 val o c' := fun t ht => ⟨fun k p hk hd hm => by rw [(hs t ht).1 k p hk hd hm]; exact hval k (hpb k hm), (hs t ht).2⟩
            have : upd val (ixOf c) v (ixOf c) = v := by simp [upd]
            rw [this]
            exact YV_congr (D.sel o (List.mem_of_getElem? ho)) (hsees.agree hs') (hy w1 fun hrd k hk => hs1 hrd k (.inr ⟨hrd, hk⟩)))
        (fun i hi => (hor i).2 (.inl (h9 i hi))) (fun k hk => inR_next (hk.imp (h10 k) id) (hk.elim (h11 k) fun h => h.2.1)) (fun k hk => hk.elim (h11 k) fun h => h.2.1)
      exact ⟨od', st', a', val', before', since', rds', bs', wr', S', e1, e2, e3, e4, e5, e6, e7, e8, e9, e10, e12, e13, fun i hi => by
        obtain ⟨k1, k2⟩ := e11 i ((hor i).2 (.inl hi)); exact ⟨k1, k2.trans (hval i hi)⟩⟩
    · exact ⟨.one c r, st, a, val, before, since, rds, bs, wr, S, .inr (by simp only [hardHd, nthO_eq, ho, hq]), h1, h2, h3, h4, h5, h6, h7, h8, h9, h10, h11, fun i hi => ⟨hi, rfl⟩⟩

theorem Same.trans {w w1 w2 : World} (h : Same w w1) (k : Same w1 w2) (hle : w.heap.size ≤ w1.heap.size) : Same w w2 := fun i hi => (k i (by omega)).trans (h i hi)

theorem Same.size {w w1 : World} (h : Same w w1) : w.heap.size ≤ w1.heap.size := by
  rcases Nat.lt_or_ge w1.heap.size w.heap.size with hlt | hge
  · have := h w1.heap.size hlt
    simp [hlt] at this
  · exact hge

/-- **Whatever the order.** -/
theorem ord_any {N : Nat} {ops : List Oper} {cs : List Nat} (D : DrawOk P N ops cs) {K : St → World → Prop} {ws : List (Nat × TypeId)} {st0 : St} (hws : ∀ i, inW (wrOps ops) i = true → inW ws i = true) {a0 : Act} (hN : a0.tmps.size = N)
    (hq : ∀ st' a' w', Agree N st' a' → Fr ws st0 st' → K st' w' → Q .normal a' w') :
    ∀ (m : Nat) (od : OT) (st : St) (a : Act) (w : World) (val : Nat → Value) (before since rds : Nat) (any : Bool) (listed : Array Bool) (c : Act) (bs : Option (List Nat)) (wr : World) (S : Nat → Prop),
      cu listed ops.length = m → listed.size = ops.length → (od = .nil ∨ hardHd P ops od = true) →
      chkT P ops cs od before since rds any (headsM od) = true → vcOrd P N ops od K bs wr st w → Agree N st a → Fr ws st0 st → (∀ d ∈ st.ge, inW ws d.s = true) →
      At0 P ops before rds → GVal ops a0 val (fun i => hasM before i = true) a → Pend P ops a0 val before (fun i => listed.getD i false = true) S w → (∀ i, listed.getD i false = true → hasM before i = true) → (∀ k, S k → inR bs wr k) → (∀ k, S k → k < w.heap.size) →
      Closed ops (fun i => listed.getD i false = true) → GVal ops a0 val (fun i => listed.getD i false = true) c →
      wpAnyIn (FW rd) 0 P .any ops.toArray Q m listed c w := by
  intro m
  induction m with
  | zero =>
    intro od st a w val before since rds any listed c bs wr S hm hs hod hchk hvc hag hfr hgd hat hgv hpd hLB hn1 hn2 hLc hgc
    have hall : ∀ k, k < ops.length → listed.getD k false = true := fun k hk => by
      have h1 := cu_zero hm k hk
      have h2 : k < listed.size := by omega
      simpa [Array.getD_eq_getD_getElem?, h2] using h1
    have hod0 : od = .nil := by
      rcases hod with h | h
      · exact h
      · exfalso
        obtain ⟨p, hp⟩ := hard_some h
        obtain ⟨o, ho, _, hnb, _⟩ := chk_cons (chk_branch hchk p hp)
        have hlt : ixOf p.1 < ops.length := (List.getElem?_eq_some_iff.1 ho).1
        rw [hLB _ (hall _ hlt)] at hnb; cases hnb
    subst hod0
    have hce : c = a := by
      refine act_ext (hgc.defers.trans hgv.defers.symm) (hgc.size.trans hgv.size.symm) fun t => ?_
      by_cases hex : ∃ (k : Nat) (q : Oper), ops[k]? = some q ∧ q.dst = some t
      · obtain ⟨k, q, hk, hd⟩ := hex
        have hlt : k < ops.length := (List.getElem?_eq_some_iff.1 hk).1
        rw [hgc.new t k q hk hd (hall k hlt), hgv.new t k q hk hd (hLB k (hall k hlt))]
      · rw [hgc.old t fun k q hk hd => absurd ⟨k, q, hk, hd⟩ hex, hgv.old t fun k q hk hd => absurd ⟨k, q, hk, hd⟩ hex]
    subst hce
    refine ⟨?_, hq _ _ _ hag.clear ⟨hfr.1, hfr.2⟩ hvc⟩
    cases hr : Region.ready .any ops.toArray listed with
    | nil => rfl
    | cons i r =>
      have hi : i ∈ Region.ready .any ops.toArray listed := by rw [hr]; simp
      obtain ⟨o, ho, hu⟩ := ready_lt hi
      have hlt : i < ops.length := (List.getElem?_eq_some_iff.1 ho).1
      have := getD_f hu
      rw [hall i hlt] at this; cases this
  | succ m ih =>
    intro od st a w val before since rds any listed c bs wr S hm hs hod hchk hvc hag hfr hgd hat hgv hpd hLB hn1 hn2 hLc hgc
    obtain ⟨i0, hi0, hu0, hbelow⟩ := cu_pos (listed := listed) (k := ops.length) (by omega)
    have ho0 : ∃ o, ops[i0]? = some o := ⟨ops[i0]'(by omega), by simp [hi0]⟩
    obtain ⟨o0, ho0⟩ := ho0
    have hr0 : i0 ∈ Region.ready .any ops.toArray listed := ready_of ho0 hu0 fun k hk => by
      have h1 := D.back i0 o0 ho0 k hk
      have h2 := hbelow k h1
      have h3 : k < listed.size := by omega
      simpa [Array.getD_eq_getD_getElem?, h3] using h2
    refine ⟨fun h0 => (by rw [h0] at hr0; cases hr0), fun i hi => ?_⟩
    obtain ⟨o, ho, hu⟩ := ready_lt hi
    have hpl := preds_listed hi ho
    have hilt : i < listed.size := lt_of_unlisted hu
    have hilo : i < ops.length := by omega
    have hLi : ¬ listed.getD i false = true := by rw [getD_f hu]; simp
    have hcu := (cu_set hu ops.length).1 hilo
    have hset : ∀ k, (listed.setIfInBounds i true).getD k false = true ↔ (listed.getD k false = true ∨ k = i) := fun k => by
      rw [getD_set' hilt]
      by_cases h : i = k
      · simp [h]
      · simp [h, Ne.symm h]
    have hclosed' : Closed ops (fun k => (listed.setIfInBounds i true).getD k false = true) := by
      intro k q hk hl p hp
      rw [hset] at hl ⊢
      rcases hl with hl | rfl
      · exact .inl (hLc k q hk hl p hp)
      · rw [ho] at hk; cases hk; exact .inl (hpl p hp)
    have hseesC := hgc.sees D hLc ho hLi hpl
    by_cases hqo : quietOp P o.op = true
    · -- a quiet one: it has been carried out on paper
      have hib : hasM before i = true := by
        rcases chk_all od before since rds _ any hchk i hilo with h | ⟨c1, hc1, he⟩
        · exact h
        · exfalso
          rcases hod with rfl | hod
          · cases hc1
          · obtain ⟨p, hp, hcp⟩ := elems_branch hc1
            obtain ⟨oh, hoh, _, hnb, hcase⟩ := chk_cons (chk_branch hchk p hp)
            have hqh := hard_branch hod p hp oh hoh
            rcases hcase with ⟨hq1, _⟩ | ⟨_, _, _, hr⟩
            · rw [hqh] at hq1; cases hq1
            · rcases hcp with rfl | hc1
              · rw [he] at hoh; rw [ho] at hoh; cases hoh; rw [hqo] at hqh; cases hqh
              · obtain ⟨p', hp', hpb⟩ := chk_late (B0 := before) p.2 _ _ _ _ hr (fun j hj => by rw [hasM_lor, hj]; rfl) (fun j hj => by rw [hasM_bit, decide_eq_true_eq] at hj; subst hj; exact hnb) c1 hc1 o (by rw [he]; exact ho) hqo
                rw [hLB p' (hpl p' hp')] at hpb; cases hpb
      obtain ⟨_, hyr⟩ := hpd i o ho hib hLi
      have hyc := hyr c hseesC w (fun _ _ _ => rfl)
      refine wpOpIn_of_YV ho hyc ?_
      refine ih od st a w val before since rds any _ _ bs wr S (by omega) (by simp [hs]) hod hchk hvc hag hfr hgd hat hgv ?_ ?_ hn1 hn2 hclosed' (hgc.put D hN ho rfl hset)
      · intro k q hk hb hl
        exact hpd k q hk hb fun h => hl ((hset k).2 (.inl h))
      · intro k hk
        rcases (hset k).1 hk with h | rfl
        · exact hLB k h
        · exact hib
    · -- one that is not quiet: it is the next one
      have hqf : quietOp P o.op = false := by simpa using hqo
      have hnbi : ¬ hasM before i = true := fun hb => hqo (hpd i o ho hb hLi).1
      rcases chk_all od before since rds _ any hchk i hilo with h | ⟨c1, hc1, he⟩
      · exact absurd h hnbi
      · rcases hod with rfl | hod
        · cases hc1
        · obtain ⟨p0, hp0⟩ := hard_some hod
          obtain ⟨oh0, hoh0, _, _, hcase0⟩ := chk_cons (chk_branch hchk p0 hp0)
          rcases hcase0 with ⟨hq1, _⟩ | ⟨_, hcov, _, _⟩
          · rw [hard_branch hod p0 hp0 oh0 hoh0] at hq1; cases hq1
          · have hiH : hasM (headsM od) i = true := by
              rcases hcov i o ho hqf with h | h | ⟨j, hj1, hj2⟩
              · exact absurd h hnbi
              · exact h
              · exfalso
                have h2 := D.hung i _ hLc (fun o' ho' p hp => by rw [ho] at ho'; cases ho'; exact hpl p hp) _ hj2
                obtain ⟨pj, hpj, rfl⟩ := heads_branch hj1
                obtain ⟨_, _, _, hnbj, _⟩ := chk_cons (chk_branch hchk pj hpj)
                rw [hLB _ h2] at hnbj; cases hnbj
            obtain ⟨⟨c0, r⟩, hcb, hic⟩ := heads_branch hiH
            have hchk := chk_branch hchk _ hcb
            have hvc := vc_branch hvc _ hcb
            dsimp only at hic hchk hvc
            obtain ⟨oh, hoh, hpb0, hnb0, hcase⟩ := chk_cons hchk
            subst hic
            rw [ho] at hoh; cases hoh
            rcases hcase with ⟨hq1, _⟩ | ⟨_, _, hkp, hr⟩
            · rw [hqf] at hq1; cases hq1
            have hseesA := hgv.sees D hat.closed ho hnbi hpb0
            refine vcOrd_heavy hws hgd ho (D.sel o (List.mem_of_getElem? ho)) hag hvc (hseesA.agree hseesC) fun v st2 w' hag2 hfr2 hgd2 hkeep hrest => ?_
            have hor : ∀ j, hasM (Nat.lor before (bit (ixOf c0))) j = true ↔ (hasM before j = true ∨ j = ixOf c0) := fun j => by rw [hasM_lor, hasM_bit]; simp only [Bool.or_eq_true, decide_eq_true_eq]; exact or_congr Iff.rfl ⟨Eq.symm, Eq.symm⟩
            have hval : ∀ k, hasM before k = true → upd val (ixOf c0) v k = val k := fun k hk => by
              unfold upd; rw [if_neg]; intro e; rw [e] at hk; exact hnbi hk
            have hvi : upd val (ixOf c0) v (ixOf c0) = v := by simp [upd]
            -- the world has turned; whoever is pending reads what he read
            have hkeep2 : kpOf c0 = true → ∀ k, S k → w'.heap[k]? = w.heap[k]? := fun h k hk => hkeep h k (hn1 k hk) (hn2 k hk)
            have hn4 : ∀ k, (kpOf c0 = true ∧ S k) → k < w'.heap.size := fun k hk => by
              have h1 := hkeep2 hk.1 k hk.2
              rcases Nat.lt_or_ge k w'.heap.size with hlt | hge
              · exact hlt
              · rw [Array.getElem?_eq_none (by omega), Array.getElem?_eq_getElem (hn2 k hk.2)] at h1; cases h1
            have hpd' : Pend P ops a0 (upd val (ixOf c0) v) (Nat.lor before (bit (ixOf c0))) (fun k => (listed.setIfInBounds (ixOf c0) true).getD k false = true) (fun k => kpOf c0 = true ∧ S k) w' := by
              intro k q hk hb hl
              have hkL : ¬ listed.getD k false = true := fun h => hl ((hset k).2 (.inl h))
              have hki : k ≠ ixOf c0 := fun h => hl ((hset k).2 (.inr h))
              have hkb : hasM before k = true := by
                rcases (hor k).1 hb with h | h
                · exact h
                · exact absurd h hki
              obtain ⟨k1, k2⟩ := hpd k q hk hkb hkL
              refine ⟨k1, fun c' hsc w1 hs1 => ?_⟩
              rw [hval k hkb]
              refine k2 c' (fun t ht => ⟨fun j p hj hd hmm => by rw [(hsc t ht).1 j p hj hd hmm]; exact hval j (hat.closed k q hk hkb j hmm), (hsc t ht).2⟩) w1 fun hrd => ?_
              rcases hkp with h | h
              · intro j hj
                exact (hs1 hrd j ⟨h, hj⟩).trans (hkeep2 h j hj)
              · exfalso
                have h1 := h k (hat.reads k q hk hkb k1 hrd)
                exact hkL (D.hung _ _ hLc (fun o' ho' p hp => by rw [ho] at ho'; cases ho'; exact hpl p hp) _ h1)
            obtain ⟨od', st', a', val', before', since', rds', bs', wr', S', e1, e2, e3, e4, e5, e6, e7, e8, e9, e10, e12, e13, e11⟩ := run_quiets D (K := K) (ws := ws) (st0 := st0) hws hN (w := w')
              (L := fun k => (listed.setIfInBounds (ixOf c0) true).getD k false = true) r st2 (a.put o.dst v) (upd val (ixOf c0) v) _ _ rds true _ _ (fun k => kpOf c0 = true ∧ S k) hr hrest hag2 (hfr.trans hfr2) hgd2
              (hat.add ho hpb0 (fun j hj => hj) (fun h => by rw [hqf] at h; cases h)) ((hgv.val_congr hval).put D hN ho hvi hor) hpd'
              (fun k hk => by
                rcases (hset k).1 hk with h | h
                · exact (hor k).2 (.inl (hLB k h))
                · exact (hor k).2 (.inr h)) (fun k hk => inR_next (.inl (hn1 k hk.2)) (hn2 k hk.2)) hn4
            refine ih od' st' a' w' val' before' since' rds' true _ _ bs' wr' S' (by omega) (by simp [hs]) e1 e2 e3 e4 e5 e6 e7 e8 e9 e10 e12 e13 hclosed' ?_
            have hv' : ∀ k, hasM before k = true ∨ k = ixOf c0 → val' k = upd val (ixOf c0) v k := fun k hk => (e11 k ((hor k).2 hk)).2
            refine GVal.put D hN (S := fun i => listed.getD i false = true) (hgc.val_congr fun k hk => ?_) ho ?_ hset
            · rw [hv' k (.inl (hLB k hk)), hval k (hLB k hk)]
            · rw [hv' _ (.inr rfl), hvi]

/-- **A REGION.** -/
theorem vcRegion_sound {N id : Nat} {od : List Nat} {ops : List Oper} {draw : Bool} {K : St → World → Prop} {st : St} {a : Act} {w : World} {ws : List (Nat × TypeId)} (hm : P.follows .mixedOrders = true)
    (hws : ∀ i, inW (wrOps ops) i = true → inW ws i = true) (hge : st.ge = [])
    (hq : ∀ st' a' w', Agree N st' a' → Fr ws st st' → K st' w' → Q .normal a' w') (h : Agree N st a) (hv : vcRegion P N od ops draw K st w) :
    (Code.region id ops.toArray draw).wpIn (FW rd) 0 P Q a w := by
  unfold vcRegion at hv
  have hgd : ∀ d ∈ st.ge, inW ws d.s = true := fun d hd => by rw [hge] at hd; cases hd
  split at hv
  · exact wpIn_region_list (by simpa using vcOps_sound (rd := rd) (Q := Q) hws hq ops st a w (fun _ ho => ho) hgd h (.refl _ _) hv)
  · split at hv
    · rename_i hok
      obtain ⟨D, hchk⟩ := drawOk_spec hok
      refine wpIn_region_any hm ?_
      have none : ∀ k, (Array.replicate ops.length false).getD k false = false := fun k => by
        rcases Nat.lt_or_ge k ops.length with hk | hk
        · simp [Array.getD_eq_getD_getElem?, hk]
        · simp [Array.getD_eq_getD_getElem?, Array.getElem?_eq_none (xs := Array.replicate ops.length false) (by simpa using hk)]
      have noL : ∀ k, ¬ (Array.replicate ops.length false).getD k false = true := fun k => by rw [none k]; simp
      have gv0 : ∀ S : Nat → Prop, (∀ k, ¬ S k) → GVal ops a (fun _ => undef) S a := fun S hS => ⟨rfl, rfl, fun t k o _ _ h => absurd h (hS k), fun _ _ => rfl⟩
      have nob : ∀ k, ¬ hasM 0 k = true := fun k => by rw [hasM_zero]; simp
      obtain ⟨od', st', a', val', before', since', rds', bs', wr', S', e1, e2, e3, e4, e5, e6, e7, e8, e9, e10, e12, e13, e11⟩ := run_quiets D (K := K) (ws := ws) (st0 := st) hws h.size (w := w.drew) (a0 := a)
        (L := fun k => (Array.replicate ops.length false).getD k false = true) (treeOf od) st a (fun _ => undef) 0 0 0 false (some []) w.drew (fun _ => False) hchk (hv _ rfl) h (.refl _ _) hgd
        ⟨fun i o _ hi => absurd hi (nob i), fun i o _ hi => absurd hi (nob i)⟩ (gv0 _ nob) (fun i o _ hi => absurd hi (nob i)) (fun i hi => absurd hi (noL i)) (fun _ hk => hk.elim) (fun _ hk => hk.elim)
      have := ord_any (rd := rd) (Q := Q) D hws h.size hq ops.length od' st' a' w.drew val' before' since' rds' false (Array.replicate ops.length false) a bs' wr' S' (cu_replicate _ _ (Nat.le_refl _)) (by simp) e1 e2 e3 e4 e5 e6 e7 e8 e9 e10 e12 e13
        (fun i o _ hi => absurd hi (noL i)) ((gv0 _ noL).val_congr fun k hk => absurd hk (noL k))
      simpa using this
    · exact hv.elim
end

end Go.Vc
