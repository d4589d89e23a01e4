/-
  A verification-condition generator for the model's code, as plain functions. 'vc' walks a code with an environment that says
  what is known of each temporary, and yields a proposition about data and worlds alone. VcSound proves it sound over 'wpIn'.
-/
import Derived.WalkKit
import Derived.WalkLawsBesides
import Derived.RangeFuncNested
import Derived.RangeFuncLeaves
import Derived.ChangeKeysEq
namespace Go.Vc
open Go

/-- The wide fence, in a round or in none. -/
def FW (rd : Option Nat) : Fence := { fn := fun _ => True, depth := none, alive := false, round := rd }

def sEq (x y : ByteArray) : Bool := x.toList == y.toList
def sLt (x y : ByteArray) : Bool := Op.bytesLess x.toList y.toList

/-! ### Conditions, told -/
inductive Cnd where
  | b (x : Bool)
  | lt (x y : Int)
  | le (x y : Int)
  | eq (x y : Int)
  | same (x y : Bool)
  | seq (x y : ByteArray)
  | not (c : Cnd)
  | and (c d : Cnd)
  | or (c d : Cnd)

def Cnd.val : Cnd → Bool
  | .b x => x
  | .lt x y => decide (x < y)
  | .le x y => decide (x ≤ y)
  | .eq x y => decide (x = y)
  | .same x y => x == y
  | .seq x y => sEq x y
  | .not c => !c.val
  | .and c d => c.val && d.val
  | .or c d => c.val || d.val

/-- The condition holds (u), or does not. -/
def Cnd.is : Cnd → Bool → Prop
  | .b x, true => x = true
  | .b x, false => x = false
  | .lt x y, true => x < y
  | .lt x y, false => y ≤ x
  | .le x y, true => x ≤ y
  | .le x y, false => y < x
  | .eq x y, true => x = y
  | .eq x y, false => x ≠ y
  | .same x y, true => x = y
  | .same x y, false => x ≠ y
  | .seq x y, true => x = y
  | .seq x y, false => x ≠ y
  | .not c, true => c.is false
  | .not c, false => c.is true
  | .and c d, true => c.is true ∧ d.is true
  | .and c d, false => c.is false ∨ d.is false
  | .or c d, true => c.is true ∨ d.is true
  | .or c d, false => c.is false ∧ d.is false

/-! ### What is known of a temporary -/
inductive SV where
  | v (x : Value)
  | b (x : Bool)
  | loc (b o : Nat)
  | p (c : Cnd)
  | fn (x : Value)

def SV.den : SV → Value
  | .v x => x
  | .b x => .bool x
  | .loc k o => .pointer (some ⟨k, o, none⟩)
  | .p c => .bool c.val
  | .fn x => x

structure Gd where
  i : Nat
  s : Nat
  t : Bool
  x : SV

structure St where
  e : List (Nat × Option SV)
  ge : List Gd
  ds : List Nat

def bq : Bool → Bool → Bool
  | true, x => x
  | false, true => false
  | false, false => true

def lkE : List (Nat × Option SV) → Nat → Option SV
  | [], _ => none
  | (j, x) :: r, i => match Nat.beq j i with
    | true => x
    | false => lkE r i

def lkG : List Gd → Nat → Option Gd
  | [], _ => none
  | g :: r, i => match Nat.beq g.i i with
    | true => some g
    | false => lkG r i

def hasC : List (Nat × Bool) → Nat → Bool → Bool
  | [], _, _ => false
  | (j, u) :: r, s, t => match Nat.beq j s, bq u t with
    | true, true => true
    | _, _ => hasC r s t

/-- The value of temporary i, the guards 'c' being known to hold. -/
def lk (st : St) (c : List (Nat × Bool)) (i : Nat) : Option SV :=
  match lkE st.e i with
  | some x => some x
  | none => match lkG st.ge i with
    | none => none
    | some g => match hasC c g.s g.t with
      | true => some g.x
      | false => match lkE st.e g.s with
        | some (.b u) => (match bq u g.t with
          | true => some g.x
          | false => none)
        | _ => none

def ofConst : Value → SV
  | .bool b => .b b
  | v => .v v

def ev (st : St) (c : List (Nat × Bool)) : Operand → Option SV
  | .tmp i => lk st c i
  | .const v => some (ofConst v)
  | .global g => some (.loc g 0)
  | .func f => some (.v (.func (.func f) #[] #[]))

def evs (st : St) (c : List (Nat × Bool)) : List Operand → Option (List SV)
  | [] => some []
  | x :: r => match ev st c x, evs st c r with
    | some y, some ys => some (y :: ys)
    | _, _ => none

def noG : List Gd → Nat → Bool
  | [], _ => true
  | g :: r, d => match Nat.beq g.s d with
    | true => false
    | false => noG r d

def put (st : St) : Option Nat → SV → St
  | none, _ => st
  | some d, x => { st with e := (d, some x) :: st.e }

def putG (st : St) (d s : Nat) (t : Bool) (x : SV) : St := { st with e := (d, none) :: st.e, ge := ⟨d, s, t, x⟩ :: st.ge }

def okDst (N : Nat) (st : St) : Option Nat → Bool
  | none => true
  | some d => match Nat.blt d N with
    | true => noG st.ge d
    | false => false

/-! ### Numbers, bools, strings -/
def kid : IntKind → Nat
  | .i8 => 0 | .i16 => 1 | .i32 => 2 | .i64 => 3 | .u8 => 4 | .u16 => 5 | .u32 => 6 | .u64 => 7

def shlI (k : IntKind) (x : Int) (n : Nat) : Int := k.wrap (x * 2 ^ (min n k.bits))
def shrI (k : IntKind) (x : Int) (n : Nat) : Int := x.fdiv (2 ^ (min n k.bits))
def quoI (k : IntKind) (x y : Int) : Int := k.wrap (x.tdiv y)
def remI (x y : Int) : Int := x.tmod y
/-- Byte i of a string. -/
def bAt (s : ByteArray) (i : Nat) : Int := ((s.data.toList.getD i 0).toNat : Int)

def mkB : SV → Option Bool
  | .b x => some x
  | .v (.bool x) => some x
  | .p c => some c.val
  | _ => none

def cndOf : SV → Option Cnd
  | .b x => some (.b x)
  | .v (.bool x) => some (.b x)
  | .p c => some c
  | _ => none

def notC : Cnd → Cnd
  | .not c => c
  | c => .not c

def notB : SV → Option SV
  | .b x => some (.b (match x with | true => false | false => true))
  | .v (.bool x) => some (.p (.not (.b x)))
  | .p c => some (.p (notC c))
  | _ => none

def isNilOp : Operand → Bool
  | .const (.slice none 0 0) => true
  | .const (.pointer none) => true
  | .const (.map none) => true
  | _ => false

def pickV (c : Cnd) : SV → SV → Option SV
  | .b true, y => (match cndOf y with | some d => some (.p (.or c d)) | none => none)
  | .b false, y => (match cndOf y with | some d => some (.p (.and (notC c) d)) | none => none)
  | .v (.bool x), .b false => some (.p (.and c (.b x)))
  | .v (.bool x), .b true => some (.p (.or (notC c) (.b x)))
  | .p x, .b false => some (.p (.and c x))
  | .p x, .b true => some (.p (.or (notC c) x))
  | .v (.bool x), .v (.bool y) => some (.v (.bool (bif c.val then x else y)))
  | .v (.bool x), .p y => some (.v (.bool (bif c.val then x else y.val)))
  | .p x, .v (.bool y) => some (.v (.bool (bif c.val then x.val else y)))
  | .p x, .p y => some (.v (.bool (bif c.val then x.val else y.val)))
  | .v (.int k x), .v (.int k' y) => (match Nat.beq (kid k) (kid k') with | true => some (.v (.int k (bif c.val then x else y))) | false => none)
  | _, _ => none

/-- Binary operators that cannot fail. -/
def arith (op : BinOp) (k : IntKind) (a b : Int) : Option SV :=
  match op with
  | .add => some (.v (.int k (k.wrap (a + b))))
  | .sub => some (.v (.int k (k.wrap (a - b))))
  | .mul => some (.v (.int k (k.wrap (a * b))))
  | .and => some (.v (.int k (bits .and k a b)))
  | .or => some (.v (.int k (bits .or k a b)))
  | .xor => some (.v (.int k (bits .xor k a b)))
  | .andNot => some (.v (.int k (bits .andNot k a b)))
  | .eql => some (.p (.eq a b))
  | .neq => some (.p (.not (.eq a b)))
  | .lss => some (.p (.lt a b))
  | .leq => some (.p (.le a b))
  | .gtr => some (.p (.lt b a))
  | .geq => some (.p (.le b a))
  | _ => none

def strOp (op : BinOp) (a b : ByteArray) : Option SV :=
  match op with
  | .eql => some (.p (.seq a b))
  | .neq => some (.p (.not (.seq a b)))
  | .lss => some (.p (.b (sLt a b)))
  | .leq => some (.p (.or (.b (sLt a b)) (.seq a b)))
  | .gtr => some (.p (.not (.or (.b (sLt a b)) (.seq a b))))
  | .geq => some (.p (.not (.b (sLt a b))))
  | _ => none

def posNat : Value → Option Nat
  | .int _ (.ofNat n) => some n
  | _ => none

/-- By a constant that is not 0, or a shift by a constant that is not below 0. -/
def byConst (op : BinOp) (k : IntKind) (a : Int) (c : Value) : Option SV :=
  match op, posNat c with
  | .shl, some n => some (.v (.int k (shlI k a n)))
  | .shr, some n => some (.v (.int k (shrI k a n)))
  | .quo, some (n + 1) => some (.v (.int k (quoI k a (Int.ofNat (n + 1)))))
  | .rem, some (n + 1) => some (.v (.int k (remI a (Int.ofNat (n + 1)))))
  | _, _ => none

def sameK (k k' : IntKind) (x : Option SV) : Option SV := match Nat.beq (kid k) (kid k') with | true => x | false => none

def shiftsB : BinOp → Bool
  | .shl => true | .shr => true | _ => false

def binPure (op : BinOp) (y : Operand) (a b : SV) : Option SV :=
  match a, b with
  | .v (.int k x), .v (.int k' z) =>
    (match y with
      | .const c => (match byConst op k x c with
        | some r => (match shiftsB op with | true => some r | false => sameK k k' (some r))
        | none => sameK k k' (arith op k x z))
      | _ => sameK k k' (arith op k x z))
  | .v (.string x), .v (.string z) => strOp op x z
  | _, _ => none

def negP (op : BinOp) (r : Cnd) : Option SV :=
  match op with
  | .eql => some (.p r)
  | .neq => some (.p (.not r))
  | _ => none

/-- Comparisons of bools, of slices and pointers and maps with nil; by the operands' type. -/
def eqPure (d : Option TypeDesc) (op : BinOp) (a b : SV) : Option SV :=
  match d with
  | some .bool => (match mkB a, mkB b with | some x, some y => negP op (.same x y) | _, _ => none)
  | some (.slice _) => (match a, b with
    | .v (.slice p _ _), .v (.slice none 0 0) => negP op (.b p.isNone)
    | _, _ => none)
  | some (.pointer _) => (match a, b with
    | .v (.pointer p), .v (.pointer none) => negP op (.b p.isNone)
    | .loc _ _, .v (.pointer none) => (match op with | .eql => some (.b false) | .neq => some (.b true) | _ => none)
    | _, _ => none)
  | some (.map _ _) => (match a, b with
    | .v (.map p), .v (.map none) => negP op (.b p.isNone)
    | _, _ => none)
  | _ => none

/-! ### Types -/
inductive Leaf where
  | int (k : IntKind)
  | bool
  | str
  | slc
  | ptr
  | map
  | any

def leafOf : Value → Leaf
  | .int k _ => .int k
  | .bool _ => .bool
  | .string _ => .str
  | .slice _ _ _ => .slc
  | .pointer _ => .ptr
  | .map _ => .map
  | _ => .any

def isAggD : Option TypeDesc → Bool
  | some (.struct _) => true
  | some (.array _ _) => true
  | _ => false

def leavesOf : List Value → List Leaf
  | [] => []
  | v :: r => leafOf v :: leavesOf r

structure Ty where
  agg : Bool
  ls : List Leaf
  zero : Value
  bytes : Nat
  big : Bool
  n : Nat

/-- An array of eight cells or more is told as one, whatever its cells. -/
def bigD : Option TypeDesc → Nat → Bool
  | some (.array _ _), n => Nat.blt 7 n
  | _, _ => false

/-- Of a type: is it a struct or an array; its cells' kinds; its zero value; its bytes. -/
def tyOf (P : Program) (t : TypeId) : Option Ty :=
  match P.info? t with
  | none => none
  | some i => match i.zero with
    | none => none
    | some z => match P.underlying t with
      | none => none
      | some d => match Nat.beq i.size z.cells.toList.length with
        | true => some { agg := isAggD (some d), ls := leavesOf z.cells.toList, zero := z, bytes := i.bytes, big := bigD (some d) i.size, n := i.size }
        | false => none

def sizeT (P : Program) (t : TypeId) : Option Nat := match P.info? t with | some i => some i.size | none => none

def Leaf.Ex : Leaf → (Value → Prop) → Prop
  | .int k, F => ∃ n : Int, F (.int k n)
  | .bool, F => ∃ b : Bool, F (.bool b)
  | .str, F => ∃ s : ByteArray, F (.string s)
  | .slc, F => ∃ (p : Option Addr) (n c : Nat), F (.slice p n c)
  | .ptr, F => ∃ p : Option Addr, F (.pointer p)
  | .map, F => ∃ r : Option Nat, F (.map r)
  | .any, F => ∃ v : Value, F v

def ExL : List Leaf → (List Value → Prop) → Prop
  | [], F => F []
  | l :: ls, F => l.Ex fun v => ExL ls fun vs => F (v :: vs)

def AllL : List Leaf → (List Value → Prop) → Prop
  | [], F => F []
  | .int k :: ls, F => ∀ n : Int, AllL ls fun vs => F (.int k n :: vs)
  | .bool :: ls, F => ∀ b : Bool, AllL ls fun vs => F (.bool b :: vs)
  | .str :: ls, F => ∀ s : ByteArray, AllL ls fun vs => F (.string s :: vs)
  | .slc :: ls, F => ∀ (p : Option Addr) (n c : Nat), AllL ls fun vs => F (.slice p n c :: vs)
  | .ptr :: ls, F => ∀ p : Option Addr, AllL ls fun vs => F (.pointer p :: vs)
  | .map :: ls, F => ∀ r : Option Nat, AllL ls fun vs => F (.map r :: vs)
  | .any :: ls, F => ∀ v : Value, AllL ls fun vs => F (v :: vs)

/-- A value of a type out of its cells. -/
def ofCells : Bool → List Value → Option SV
  | true, vs => some (.v (.agg vs.toArray))
  | false, [v] => some (.v v)
  | _, _ => none

/-- 'there is a value of the type, such that'. -/
def ExT (t : Ty) (F : SV → Prop) : Prop := match t.big with
  | true => ∃ vs : Array Value, vs.size = t.n ∧ F (.v (.agg vs))
  | false => ExL t.ls fun vs => match ofCells t.agg vs with | some x => F x | none => False

/-- Curried: over the cells of the slots that a loop hands on. -/
def Tel (R : Type) : List Leaf → Type
  | [] => R
  | .int _ :: ls => Int → Tel R ls
  | .bool :: ls => Bool → Tel R ls
  | .str :: ls => ByteArray → Tel R ls
  | .slc :: ls => Option Addr → Nat → Nat → Tel R ls
  | .ptr :: ls => Option Addr → Tel R ls
  | .map :: ls => Option Nat → Tel R ls
  | .any :: ls => Value → Tel R ls

def app {R : Type} : (ls : List Leaf) → Tel R ls → List Value → Option R
  | [], f, [] => some f
  | .int k :: ls, f, .int k' n :: vs => (match Nat.beq (kid k) (kid k') with | true => app ls (f n) vs | false => none)
  | .bool :: ls, f, .bool b :: vs => app ls (f b) vs
  | .str :: ls, f, .string s :: vs => app ls (f s) vs
  | .slc :: ls, f, .slice p n c :: vs => app ls (f p n c) vs
  | .ptr :: ls, f, .pointer p :: vs => app ls (f p) vs
  | .map :: ls, f, .map r :: vs => app ls (f r) vs
  | .any :: ls, f, v :: vs => app ls (f v) vs
  | _, _, _ => none

def atI {ls : List Leaf} (I : Tel (World → Prop) ls) (vs : List Value) (w : World) : Prop := match app ls I vs with | some p => p w | none => False
def atN {ls : List Leaf} (M : Tel (World → Nat) ls) (vs : List Value) (w : World) : Nat := match app ls M vs with | some p => p w | none => 0

/-! ### Memory -/
def off (o : Nat) : Nat → Nat
  | 0 => o
  | k + 1 => o + (k + 1)

def scale (k s : Nat) : Nat := match Nat.beq s 1 with | true => k | false => k * s

def loadL : List Leaf → (b o j : Nat) → World → (List Value → Prop) → Prop
  | [], _, _, _, _, F => F []
  | l :: ls, b, o, j, w, F => l.Ex fun v => w.cell? ⟨b, off o j, none⟩ = some v ∧ loadL ls b o (j + 1) w fun vs => F (v :: vs)

/-- The cells vs lie at b, from o on. -/
def CellsAt (w : World) (b o : Nat) (vs : Array Value) : Prop := ∀ k v, vs[k]? = some v → w.cell? ⟨b, o + k, none⟩ = some v

/-- What a variable of a type holds. -/
def loadT (ty : Ty) (b o : Nat) (w : World) (F : SV → Prop) : Prop := match ty.big with
  | true => ∃ vs : Array Value, vs.size = ty.n ∧ CellsAt w b o vs ∧ F (.v (.agg vs))
  | false => match ty.agg, ty.zero with
    | false, .nilFunc => ∃ v : Value, w.cell? ⟨b, o, none⟩ = some v ∧ F (.fn v)
    | _, _ => loadL ty.ls b o 0 w fun vs => match ofCells ty.agg vs with | some r => F r | none => False

/-- The cells vs can be stored at b, from o on. -/
def CanPut (w : World) (b o : Nat) (vs : Array Value) : Prop := ∀ k v, vs[k]? = some v → v.oneCell' = true ∧ (∃ u, w.cell? ⟨b, o + k, none⟩ = some u) ∧ w.frozen? ⟨b, o + k, none⟩ = false

/-- A type's zero cells. -/
def zeroA (P : Program) (t : TypeId) : Array Value := match tyOf P t with | some ty => ty.zero.cells | none => #[]

/-- Part of an array, from o on. -/
def pickL : List Leaf → Array Value → (o j : Nat) → (List Value → Prop) → Prop
  | [], _, _, _, F => F []
  | l :: ls, vs, o, j, F => l.Ex fun v => vs[off o j]? = some v ∧ pickL ls vs o (j + 1) fun xs => F (v :: xs)
def pickT (ty : Ty) (vs : Array Value) (o : Nat) (F : SV → Prop) : Prop := match ty.big with
  | true => F (.v (.agg (vs.extract o (o + ty.n))))
  | false => pickL ty.ls vs o 0 fun xs => match ofCells ty.agg xs with | some r => F r | none => False

/-- b is a new block, o. -/
def New (w : World) (o : Obj) (b : Nat) (w' : World) : Prop := b = w.heap.size ∧ w' = w.alloc o

def setL : List Value → (b o j : Nat) → World → World
  | [], _, _, _, w => w
  | v :: vs, b, o, j, w => setL vs b o (j + 1) (w.setCell ⟨b, off o j, none⟩ v)

/-- The values vs are stored at b, from o on. -/
def Put (w : World) (b o : Nat) (vs : List Value) (w' : World) : Prop := w' = setL vs b o 0 w

def Drew (w w' : World) : Prop := w' = w.drew

def storeL : List Value → (b o j : Nat) → World → Prop → Prop
  | [], _, _, _, _, X => X
  | v :: vs, b, o, j, w, X => match v.oneCell' with
    | true => (∃ u, w.cell? ⟨b, off o j, none⟩ = some u) ∧ w.frozen? ⟨b, off o j, none⟩ = false ∧ storeL vs b o (j + 1) w X
    | false => False

def asPtr (x : SV) (F : Nat → Nat → Prop) : Prop :=
  match x with
  | .loc b o => F b o
  | .v (.pointer (some ⟨b, o, none⟩)) => F b o
  | .v (.pointer p) => ∃ b o, p = some ⟨b, o, none⟩ ∧ F b o
  | _ => False

/-- Where 's[lo:hi:max]' begins. -/
def slBase (p : Option Addr) (l m size : Nat) : Option Addr := if m = l then p else p.map (·.add (l * size))

/-- The bytes that a slice of bytes holds. -/
def BytesAt (w : World) (p : Option Addr) (n : Nat) (l : List UInt8) : Prop :=
  l.length = n ∧ (0 < n → ∃ b o, p = some ⟨b, o, none⟩ ∧ ∀ i (h : i < l.length), w.cell? ⟨b, o + i, none⟩ = some (.int .u8 ((l[i].toNat : Nat) : Int)))

def fieldAt? (P : Program) (s : TypeId) (f : Nat) : Option (Nat × TypeId) :=
  match P.underlying s with
  | some (.struct fs) => (match fs.toList[f]? with
    | some x => some (x.offset, x.type)
    | none => none)
  | _ => none

def nthV : List Value → Nat → Option Value
  | [], _ => none
  | v :: _, 0 => some v
  | _ :: r, i + 1 => nthV r i

def cut (l : List Value) (a n : Nat) : List Value := (l.drop a).take n

def partL (P : Program) (t : TypeId) (cs : List Value) (o : Nat) : Option SV :=
  match tyOf P t with
  | none => none
  | some ty => match ty.agg with
    | true => some (.v (.agg (cut cs o ty.ls.length).toArray))
    | false => match nthV cs o with
      | some v => some (.v v)
      | none => none

def enterable (P : Program) (f : FuncId) : Bool :=
  match P.funcs[f]? with
  | none => false
  | some fn => fn.body.isSome && !(fn.name == "runtime.NumGoroutine")

def resTys (P : Program) (f : FuncId) : Option (List (Option Ty)) :=
  match P.funcs[f]? with
  | none => none
  | some fn => some (fn.resultTypes.toList.map (tyOf P))

def ExTs : List (Option Ty) → (List SV → Prop) → Prop
  | [], F => F []
  | none :: _, _ => False
  | some t :: ts, F => ExT t fun x => ExTs ts fun xs => F (x :: xs)

/-- What a call hands back. -/
def ofResults : List SV → SV
  | [x] => x
  | xs => .v (.tuple (xs.map SV.den).toArray)

/-! ### Operations without a choice -/
def dens : List SV → List Value
  | [] => []
  | x :: r => x.den :: dens r

def evParts (st : St) (c : List (Nat × Bool)) : List (Nat × Operand) → Option (List (Nat × Value))
  | [] => some []
  | (i, x) :: r => match ev st c x, evParts st c r with
    | some y, some ys => some ((i, y.den) :: ys)
    | _, _ => none

def mmI (mx : Bool) (x y : Int) : Int := match mx with
  | true => if y > x then y else x
  | false => if y < x then y else x

def lenPure (P : Program) (t : TypeId) (x : SV) : Option SV :=
  match P.underlying t, x with
  | some (.slice _), .v (.slice _ n _) => some (.v (.int .i64 (n : Int)))
  | some .string, .v (.string s) => some (.v (.int .i64 (s.size : Int)))
  | some (.array n _), _ => some (.v (.int .i64 (n : Int)))
  | _, _ => none

def convPure (P : Program) (dst : TypeId) (x : SV) : Option SV :=
  match x with
  | .v (.int _ n) => (match P.underlying dst with | some (.int k) => some (.v (.int k (k.wrap n))) | _ => none)
  | .v (.string s) => (match P.underlying dst with | some .string => some (.v (.string s)) | _ => none)
  | _ => none

def placesL (P : Program) : List Field → Option (List (Nat × Nat))
  | [] => some []
  | f :: r => match sizeT P f.type, placesL P r with
    | some n, some ps => some ((f.offset, n) :: ps)
    | _, _ => none

def pickOp (st : St) (c : List (Nat × Bool)) (co a b : Operand) : Option SV :=
  match ev st c co with
  | some (.b true) => ev st c a
  | some (.b false) => ev st c b
  | some v => (match cndOf v with
    | some g =>
      let ca := match co with | .tmp s => (s, true) :: c | _ => c
      let cb := match co with | .tmp s => (s, false) :: c | _ => c
      (match ev st ca a, ev st cb b with
        | some x, some y => pickV g x y
        | _, _ => none)
    | none => none)
  | none => none

def unPure (u : UnOp) (x : SV) : Option SV :=
  match u with
  | .not => notB x
  | .neg => (match x with | .v (.int k n) => some (.v (.int k (k.wrap (0 - n)))) | _ => none)
  | .xor => (match x with | .v (.int k n) => some (.v (.int k (bits .xor k (if k.signed then -1 else k.max) n))) | _ => none)
  | .plus => none

def builtinPure (P : Program) (b : Builtin) (xs : List SV) (ts : List TypeId) : Option SV :=
  match b with
  | .len => (match xs, ts with | [x], [t] => lenPure P t x | _, _ => none)
  | .cap => (match xs, ts with
    | [.v (.slice _ _ n)], [t] => (match P.underlying t with | some (.slice _) => some (.v (.int .i64 (n : Int))) | _ => none)
    | _, _ => none)
  | .min => (match xs with | [.v (.int k a), .v (.int _ b)] => some (.v (.int k (mmI false a b))) | _ => none)
  | .max => (match xs with | [.v (.int k a), .v (.int _ b)] => some (.v (.int k (mmI true a b))) | _ => none)
  | _ => none

/-! '==' at structs and arrays -/
def eqFs (P : Program) (E : TypeId → Value → Value → Option Cnd) : List Field → List Value → List Value → Option Cnd
  | [], _, _ => none
  | f :: r, xs, ys => match (f.name == "_"), partL P f.type xs f.offset, partL P f.type ys f.offset with
    | false, some a, some b => (match E f.type a.den b.den with
      | none => none
      | some c => (match r with
        | [] => some c
        | _ => (match eqFs P E r xs ys with | some d => some (.and c d) | none => none)))
    | _, _, _ => none

def eqEs (P : Program) (E : TypeId → Value → Value → Option Cnd) (e : TypeId) (s : Nat) : Nat → Nat → List Value → List Value → Option Cnd
  | 0, _, _, _ => none
  | n + 1, i, xs, ys => match partL P e xs (i * s), partL P e ys (i * s) with
    | some a, some b => (match E e a.den b.den with
      | none => none
      | some c => (match n with
        | 0 => some c
        | _ => (match eqEs P E e s n (i + 1) xs ys with | some d => some (.and c d) | none => none)))
    | _, _ => none

def eqV (P : Program) : List Unit → TypeId → Value → Value → Option Cnd
  | [], _, _, _ => none
  | _ :: f, t, x, y => match P.underlying t, x, y with
    | some .bool, .bool a, .bool b => some (.same a b)
    | some (.int _), .int k a, .int k' b => (match Nat.beq (kid k) (kid k') with | true => some (.eq a b) | false => none)
    | some .string, .string a, .string b => some (.seq a b)
    | some (.struct fs), .agg xs, .agg ys => (match P.stoodInHeld t with | true => none | false => eqFs P (eqV P f) fs.toList xs.toList ys.toList)
    | some (.array n e), .agg xs, .agg ys => (match sizeT P e with | some s => eqEs P (eqV P f) e s n 0 xs.toList ys.toList | none => none)
    | _, _, _ => none

def orT : Bool → Bool → Bool
  | true, _ => true
  | false, x => x
def bigT (P : Program) (t : TypeId) : Bool := match tyOf P t with | some ty => ty.big | none => false

def eqAgg (P : Program) (t : TypeId) (op : BinOp) (a b : SV) : Option SV :=
  match a, b with
  | .v (.agg xs), .v (.agg ys) => (match orT (P.eqGuardType P.depth t) (bigT P t) with
    | true => none
    | false => (match eqV P [(), (), (), ()] t (.agg xs) (.agg ys) with
      | some c => negP op c
      | none => none))
  | _, _ => none

def pureOp (P : Program) (st : St) (c : List (Nat × Bool)) (op : Op) : Option SV :=
  match op with
  | .move x => ev st c x
  | .assign x => ev st c x
  | .pick co a b => pickOp st c co a b
  | .binOp o t x y _ => (match ev st c x, ev st c y with
    | some a, some b => (match binPure o y a b with
      | some r => some r
      | none => (match eqPure (P.underlying t) o a b with
        | some r => some r
        | none => eqAgg P t o a b))
    | _, _ => none)
  | .unOp u _ x => (match ev st c x with | some a => unPure u a | none => none)
  | .convert src dst x => (match P.underlying src, ev st c x with | some _, some a => convPure P dst a | _, _ => none)
  | .extract t i => (match ev st c t with
    | some (.v (.tuple vs)) => (match nthV vs.toList i with
      | some v => some (.v v)
      | none => none)
    | _ => none)
  | .field s x f => (match fieldAt? P s f, ev st c x with
    | some (o, t), some (.v (.agg cs)) => partL P t cs.toList o
    | _, _ => none)
  | .fieldAddr s x f => (match fieldAt? P s f, ev st c x with
    | some (o, t), some (.loc b a) => (match sizeT P t with
      | some (_ + 1) => some (.loc b (off a o))
      | _ => none)
    | _, _ => none)
  | .makeFunc fn a b => (match evs st c a.toList, evs st c b.toList with
    | some x, some y => some (.v (.func fn (dens x).toArray (dens y).toArray))
    | _, _ => none)
  | .nilCheck x => (match ev st c x with
    | some (.loc b o) => some (.loc b o)
    | some (.v (.func (.func f) a b)) => some (.v (.func (.func f) a b))
    | some (.v (.func (.yield l) a b)) => some (.v (.func (.yield l) a b))
    | _ => none)
  | .call cl => (match cl.callee, evs st c cl.args.toList with | .builtin b, some xs => builtinPure P b xs cl.argTypes.toList | _, _ => none)
  | .build t ps => (match tyOf P t, evParts st c ps.toList, P.underlying t with
    | some ty, some xs, some (.struct fs) => (match placesL P fs.toList with
      | some ps => (match Instr.fill (fun i => ps[i]?) ty.zero.cells xs with
        | some cs => some (.v (.agg cs))
        | none => none)
      | none => none)
    | some ty, some xs, some (.array _ e) => (match sizeT P e with
      | some n => (match Instr.fill (fun i => some (i * n, n)) ty.zero.cells xs with
        | some cs => some (.v (.agg cs))
        | none => none)
      | none => none)
    | _, _, _ => none)
  | _ => none

/-! ### Operations that read, write, or may fail -/
/-- What lay in w lies so in w'. -/
def Same (w w' : World) : Prop := ∀ k, k < w.heap.size → w'.heap[k]? = w.heap[k]?

def isZ : Option Operand → Bool
  | none => true
  | _ => false

def valOp (P : Program) (st : St) (o : Oper) (w : World) (F : SV → World → Prop) : Prop :=
  match pureOp P st [] o.op with
  | some x => F x w
  | none => match o.op with
    | .alloc t => (match tyOf P t with
      | some ty => (match ty.big with
        | true => ∀ (b : Nat) (w' : World), New w (.cells (zeroA P t) t) b w' → F (.loc b 0) w'
        | false => ∀ (b : Nat) (w' : World), New w (.cells ty.zero.cells t) b w' → F (.loc b 0) w')
      | none => False)
    | .box t x => (match ev st [] x with
      | some a => ∀ (b : Nat) (w' : World), New w (.cells a.den.cells t) b w' → F (.loc b 0) w'
      | none => False)
    | .load t x => (match ev st [] x, tyOf P t with
      | some a, some ty => asPtr a fun b o => loadT ty b o w fun r => F r w
      | _, _ => False)
    | .store t x y => (match ev st [] x, ev st [] y, sizeT P t with
      | some a, some v, some n => (match bigT P t with
       | true => (match v with
        | .v (.agg vs) => vs.size = n ∧ asPtr a fun b o => CanPut w b o vs ∧ ∀ w' : World, Put w b o vs.toList w' → F (.v undef) w'
        | _ => False)
       | false => match Nat.beq n v.den.cells.toList.length with
        | true => asPtr a fun b o => storeL v.den.cells.toList b o 0 w (∀ w' : World, Put w b o v.den.cells.toList w' → F (.v undef) w')
        | false => False)
      | _, _, _ => False)
    | .nilCheck x => (match ev st [] x with
      | some (.v (.pointer p)) => ∃ b o, p = some ⟨b, o, none⟩ ∧ F (.loc b o) w
      | _ => False)
    | .fieldAddr s x f => (match fieldAt? P s f, ev st [] x with
      | some (k, t), some a => (match sizeT P t with
        | some (_ + 1) => asPtr a fun b o => F (.loc b (off o k)) w
        | _ => False)
      | _, _ => False)
    | .indexAddr t x i => (match ev st [] x, ev st [] i, P.underlying t with
      | some (.v (.slice p n _)), some (.v (.int _ k)), some (.slice e) => (match sizeT P e with
        | some s => ∃ b o, p = some ⟨b, o, none⟩ ∧ 0 ≤ k ∧ k < (n : Int) ∧ F (.loc b (o + scale k.toNat s)) w
        | none => False)
      | some a, some (.v (.int _ k)), some (.array n e) => (match sizeT P e with
        | some s => asPtr a fun b o => 0 ≤ k ∧ k < (n : Int) ∧ F (.loc b (o + scale k.toNat s)) w
        | none => False)
      | _, _, _ => False)
    | .index t x i => (match ev st [] x, ev st [] i, P.underlying t with
      | some (.v (.agg vs)), some (.v (.int _ k)), some (.array n e) => (match tyOf P e with
        | some ty => 0 ≤ k ∧ k < (n : Int) ∧ pickT ty vs (scale k.toNat ty.n) fun r => F r w
        | none => False)
      | some (.v (.string s)), some (.v (.int _ k)), some .string => 0 ≤ k ∧ k < (s.size : Int) ∧ F (.v (.int .u8 (bAt s k.toNat))) w
      | _, _, _ => False)
    | .slice t x lo hi mx => (match ev st [] x, P.underlying t with
      | some (.v (.string s)), some .string => (match mx with
        | some _ => False
        | none => (match lo, hi with
          | none, none => F (.v (.string s)) w
          | some lo, none => (match ev st [] lo with
            | some (.v (.int _ l)) => 0 ≤ l ∧ l ≤ (s.size : Int) ∧ F (.v (.string (s.extract l.toNat s.size))) w
            | _ => False)
          | none, some hi => (match ev st [] hi with
            | some (.v (.int _ h)) => 0 ≤ h ∧ h ≤ (s.size : Int) ∧ F (.v (.string (s.extract 0 h.toNat))) w
            | _ => False)
          | some lo, some hi => (match ev st [] lo, ev st [] hi with
            | some (.v (.int _ l)), some (.v (.int _ h)) => 0 ≤ l ∧ l ≤ h ∧ h ≤ (s.size : Int) ∧ F (.v (.string (s.extract l.toNat h.toNat))) w
            | _, _ => False)))
      | some (.v (.slice p n c)), some (.slice e) => (match sizeT P e with
        | none => False
        | some sz => (match lo, hi, mx with
          | none, none, none => F (.v (.slice p n c)) w
          | some lo, none, none => (match ev st [] lo with
            | some (.v (.int _ l)) => 0 ≤ l ∧ l ≤ (n : Int) ∧ F (.v (.slice (slBase p l.toNat c sz) (n - l.toNat) (c - l.toNat))) w
            | _ => False)
          | none, some hi, none => (match ev st [] hi with
            | some (.v (.int _ h)) => 0 ≤ h ∧ h ≤ (c : Int) ∧ F (.v (.slice p h.toNat c)) w
            | _ => False)
          | some lo, some hi, none => (match ev st [] lo, ev st [] hi with
            | some (.v (.int _ l)), some (.v (.int _ h)) => 0 ≤ l ∧ l ≤ h ∧ h ≤ (c : Int) ∧ F (.v (.slice (slBase p l.toNat c sz) (h.toNat - l.toNat) (c - l.toNat))) w
            | _, _ => False)
          | none, some hi, some mx => (match ev st [] hi, ev st [] mx with
            | some (.v (.int _ h)), some (.v (.int _ m)) => 0 ≤ h ∧ h ≤ m ∧ m ≤ (c : Int) ∧ F (.v (.slice p h.toNat m.toNat)) w
            | _, _ => False)
          | _, _, _ => False))
      | some a, some (.array n e) => (match sizeT P e, lo, hi, mx with
        | some sz, none, none, none => asPtr a fun b o => F (.v (.slice (some ⟨b, o, none⟩) n n)) w
        | some sz, some lo, none, none => (match ev st [] lo with
          | some (.v (.int _ l)) => asPtr a fun b o => 0 ≤ l ∧ l ≤ (n : Int) ∧ F (.v (.slice (slBase (some ⟨b, o, none⟩) l.toNat n sz) (n - l.toNat) (n - l.toNat))) w
          | _ => False)
        | some sz, none, some hi, none => (match ev st [] hi with
          | some (.v (.int _ h)) => asPtr a fun b o => 0 ≤ h ∧ h ≤ (n : Int) ∧ F (.v (.slice (some ⟨b, o, none⟩) h.toNat n)) w
          | _ => False)
        | _, _, _, _ => False)
      | _, _ => False)
    | .makeSlice t x y => (match ev st [] x, ev st [] y, P.underlying t with
      | some (.v (.int _ l)), some (.v (.int _ c)), some (.slice e) => (match tyOf P e with
        | some ty => 0 ≤ l ∧ l ≤ c ∧ (ty.bytes : Int) * c ≤ 281474976710656 ∧ c ≤ 9223372036854775807 ∧
            ∀ (b : Nat) (w' : World), New w (.cells (madeCells ty.zero.cells (scale c.toNat ty.ls.length)) e) b w' → F (.v (.slice (some ⟨b, 0, none⟩) l.toNat c.toNat)) w'
        | none => False)
      | _, _, _ => False)
    | .buildSlice t n ps => (match P.underlying t, evParts st [] ps.toList with
      | some (.slice e), some xs => (match tyOf P e with
        | some ty => (match Nat.ble (n * ty.ls.length) 1000, Instr.fill (fun i => some (i * ty.ls.length, ty.ls.length)) (madeCells ty.zero.cells (n * ty.ls.length)) xs with
          | true, some cs => ∀ (b : Nat) (w' : World), New w (.cells cs e) b w' → F (.v (.slice (some ⟨b, 0, none⟩) n n)) w'
          | _, _ => False)
        | none => False)
      | _, _ => False)
    | .binOp op t x y _ => (match ev st [] x, ev st [] y with
      | some (.v (.int k a)), some (.v (.int k' b)) => (match op with
        | .shl => 0 ≤ b ∧ F (.v (.int k (shlI k a b.toNat))) w
        | .shr => 0 ≤ b ∧ F (.v (.int k (shrI k a b.toNat))) w
        | .quo => (match Nat.beq (kid k) (kid k') with | true => b ≠ 0 ∧ F (.v (.int k (quoI k a b))) w | false => False)
        | .rem => (match Nat.beq (kid k) (kid k') with | true => b ≠ 0 ∧ F (.v (.int k (remI a b))) w | false => False)
        | _ => False)
      | some (.v (.string a)), some (.v (.string b)) => (match op with
        | .add => a.size + b.size ≤ 9223372036854775807 ∧ F (.v (.string (a ++ b))) w
        | _ => False)
      | some a, some b => ∃ r : Bool, (∀ w1 : World, (do eqGuard op t x y a.den b.den; binOp op t a.den b.den : Sem Value).run P w1 = .ok (.bool r) w1) ∧ F (.v (.bool r)) w
      | _, _ => False)
    | .convert src dst x => (match P.underlying src, P.underlying dst, ev st [] x with
      | some (.slice e), some .string, some (.v (.slice p n _)) => (match P.underlying e with
        | some (.int .u8) => ∃ l : List UInt8, BytesAt w p n l ∧ F (.v (.string ⟨l.toArray⟩)) w
        | _ => False)
      | some .string, some (.slice e), some (.v (.string s)) => (match P.underlying e with
        | some (.int .u8) => ∀ (c b : Nat) (w' : World), s.size ≤ c → New w.drew (.cells (bytesRow s c) e ((bytesRow s c).size, (bytesRow s c).size + 1)) b w' → F (.v (.slice (some ⟨b, 0, none⟩) s.size c)) w'
        | _ => False)
      | some (.slice _), some (.slice e), some (.v (.slice p n c)) => (match P.underlying e, Nat.beq src dst with
        | some (.int .u8), true => ∃ b o cs t fr, p = some ⟨b, o, none⟩ ∧ w.heap[b]? = some (.cells cs t fr) ∧ F (.v (.slice p n c)) (w.freeze ⟨b, cs.size, none⟩ 1)
        | _, _ => False)
      | _, _, _ => False)
    | .makeMap t none => ∀ (b : Nat) (w' : World), New w (.map #[] 0) b w' → F (.v (.map (some b))) w'
    | .lookup t x i ok => (match ev st [] x, ev st [] i, P.underlying t with
      | some a, some k, some (.map _ e) => (match tyOf P e, ok with
        | some ty, false => ExT ty fun r => (∀ w1, Same w w1 → (Instr.lookup t a.den k.den false).run P w1 = .ok r.den w1) ∧ F r w
        | some ty, true => ExT ty fun r => ∃ b : Bool, (∀ w1, Same w w1 → (Instr.lookup t a.den k.den true).run P w1 = .ok (.tuple #[r.den, .bool b]) w1) ∧ F (.v (.tuple #[r.den, .bool b])) w
        | _, _ => False)
      | _, _, _ => False)
    | .mapUpdate t m k x => (match ev st [] m, ev st [] k, ev st [] x with
      | some a, some b, some y => ∃ w', (Instr.mapUpdate t a.den b.den y.den).run P w = .ok () w' ∧ F (.v undef) w'
      | _, _, _ => False)
    | .call cl => (match cl.callee, evs st [] cl.args.toList, cl.argTypes.toList with
      | .builtin .append, some [a, b], [t, u] => ∃ (p : Option Addr) (n c : Nat) (w' : World), (Builtin.append_ #[t, u] o.type #[a.den, b.den]).run P w = .ok (.slice p n c) w' ∧ F (.v (.slice p n c)) w'
      | .builtin .copy, some [a, b], [t, u] => ∃ (n : Int) (w' : World), (Builtin.copy_ #[t, u] o.type #[a.den, b.den]).run P w = .ok (.int .i64 n) w' ∧ F (.v (.int .i64 n)) w'
      | _, _, _ => False)
    | _ => False

/-- A yield, in whatever fence. -/
def Yield (P : Program) (l : Nat) (args : Array Value) (w : World) (R : Bool → World → Prop) : Prop :=
  ∀ rd, YieldAt (FW rd) 0 P l args w fun e w' => ∃ b : Bool, e = .returned (.bool b) ∧ R b w'

def isCall : Op → Bool
  | .call cl => (match cl.callee with | .value _ => true | _ => false)
  | _ => false

/-- An operation, a call of a Go function among them. -/
def oneOp (P : Program) (st : St) (o : Oper) (w : World) (F : SV → World → Prop) : Prop :=
  match o.op with
  | .call cl => (match cl.callee with
    | .value f => (match ev st [] f, evs st [] cl.args.toList with
      | some (.v (.func (.func g) first cap)), some xs => (match enterable P g, resTys P g with
        | true, some ts => Calls P g (first.toList ++ (dens xs ++ cap.toList)).toArray w fun e w' => ExTs ts fun rs => e = .returned (ofResults rs).den ∧ F (ofResults rs) w'
        | false, some ts => ExTs ts fun rs => ∃ w', (callFunc g (first.toList ++ (dens xs ++ cap.toList)).toArray).run P w = .ok (.value (ofResults rs).den) w' ∧ F (ofResults rs) w'
        | _, _ => False)
      | some (.v (.func (.yield l) first _)), some xs => Yield P l (first.toList ++ dens xs).toArray w fun b w' => F (.v (.bool b)) w'
      | some (.fn v), some xs => ∃ l : Nat, v = .func (.yield l) #[] #[] ∧ Yield P l (dens xs).toArray w fun b w' => F (.v (.bool b)) w'
      | _, _ => False)
    | _ => valOp P st o w F)
  | _ => valOp P st o w F

/-! ### A region -/
def gdst (ops : List Oper) (j : Nat) : Option Nat :=
  match ops, j with
  | [], _ => none
  | o :: _, 0 => o.dst
  | _ :: r, j + 1 => gdst r j

inductive GV where
  | yes
  | no
  | split (s : Nat) (g : Cnd)
  | bad

/-- Does the guard 'temporary s holds t' hold? -/
def guardV (st : St) (s : Nat) (t : Bool) : GV :=
  match lkE st.e s with
  | some (.b u) => (match bq u t with | true => .yes | false => .no)
  | some (.v (.bool g)) => .split s (.b g)
  | some (.p g) => .split s g
  | some (.v (.tuple _)) => .no
  | some _ => .bad
  | none => match lkG st.ge s with
    | none => .bad
    | some d => match lkE st.e d.s with
      | some (.v (.bool g)) => .split d.s (.b g)
      | some (.p g) => .split d.s g
      | some (.b u) => (match bq u d.t with
        | false => .no
        | true => match d.x with
          | .b u' => (match bq u' t with | true => .yes | false => .no)
          | .v (.bool g) => .split s (.b g)
          | .p g => .split s g
          | _ => .bad)
      | _ => .bad

def skipO (st : St) (o : Oper) : St := put st o.dst (.v undef)

def refine' (st : St) (s : Nat) (u : Bool) : St := { st with e := (s, some (.b u)) :: st.e }

/-- An operation that hangs on the guard 'temporary s holds t'. -/
def gstep (P : Program) (o : Oper) (s : Nat) (t : Bool) (K : St → World → Prop) : List Unit → St → World → Prop
  | [], st, w => (match guardV st s t with
    | .yes => oneOp P st o w fun x w' => K (put st o.dst x) w'
    | .no => K (skipO st o) w
    | _ => False)
  | _ :: f, st, w => (match guardV st s t with
    | .yes => oneOp P st o w fun x w' => K (put st o.dst x) w'
    | .no => K (skipO st o) w
    | .bad => False
    | .split s' g => (match o.dst, Nat.beq s s', pureOp P st [(s, t)] o.op with
      | some d, true, some x => (match Nat.beq s d with
        | true => False
        | false => K (putG st d s t x) w)
      | _, _, _ => (g.is true → gstep P o s t K f (refine' st s' true) w) ∧ (g.is false → gstep P o s t K f (refine' st s' false) w)))

def vcOps (P : Program) (N : Nat) (all : List Oper) : List Oper → (St → World → Prop) → St → World → Prop
  | [], K, st, w => K { st with ge := [] } w
  | o :: rest, K, st, w =>
    match okDst N st o.dst with
    | false => False
    | true => match o.guard with
      | none => oneOp P st o w fun x w' => vcOps P N all rest K (put st o.dst x) w'
      | some (j, t) => match gdst all j with
        | none => False
        | some s => gstep P o s t (fun st' w' => vcOps P N all rest K st' w') [(), (), (), ()] st w

/-! ### A region that draws its order -/
def lenOp : Builtin → Bool
  | .len => true | .cap => true | .min => true | .max => true | _ => false

/-- An operation that leaves the world as it is. -/
def quietOp (P : Program) : Op → Bool
  | .move _ | .assign _ | .pick .. | .load .. | .nilCheck _ | .binOp .. | .unOp .. | .extract .. | .field .. | .fieldAddr .. | .indexAddr .. | .index .. | .slice .. | .makeFunc .. | .build .. | .lookup .. => true
  | .convert src dst _ => (match P.underlying src, P.underlying dst with | some .string, some (.slice _) => false | some (.slice _), some (.slice _) => false | _, _ => true)
  | .call cl => (match cl.callee with | .builtin b => lenOp b | _ => false)
  | _ => false

/-- An operation that looks into memory. -/
def readsOp : Op → Bool
  | .load .. => true
  | .lookup .. => true
  | .convert .. => true
  | _ => false

def memN : List Nat → Nat → Bool
  | [], _ => false
  | j :: r, i => match Nat.beq j i with | true => true | false => memN r i

/-- What an operation waits for, whatever the mode. -/
def preds (o : Oper) : List Nat := (o.after.toList.filter (Region.binds .any)).map (·.on)

def tmpsOf : List Operand → List Nat
  | [] => []
  | .tmp t :: r => t :: tmpsOf r
  | _ :: r => tmpsOf r

def looks (all : List Oper) (o : Oper) : List Nat :=
  tmpsOf o.op.operands.toList ++ (match o.guard with | some (j, _) => (match gdst all j with | some s => [s] | none => []) | none => [])

def noDup : List Nat → Bool
  | [] => true
  | i :: r => match memN r i with | true => false | false => noDup r

def dstsOf : List Oper → List Nat
  | [] => []
  | o :: r => match o.dst with | some d => d :: dstsOf r | none => dstsOf r

def allB {α : Type} (p : α → Bool) : List α → Bool
  | [] => true
  | x :: r => match p x with | true => allB p r | false => false

/-! Sets of numbers as bits. -/
def bit (i : Nat) : Nat := Nat.shiftLeft 1 i
def hasM (m i : Nat) : Bool := Nat.beq (Nat.land (Nat.shiftRight m i) 1) 1
def maskOf : List Nat → Nat
  | [] => 0
  | i :: r => Nat.lor (bit i) (maskOf r)
def subM (a b : Nat) : Bool := Nat.beq (Nat.land a b) a

def nthN : List Nat → Nat → Nat
  | [], _ => 0
  | x :: _, 0 => x
  | _ :: r, i + 1 => nthN r i

def nthO : List Oper → Nat → Option Oper
  | [], _ => none
  | x :: _, 0 => some x
  | _ :: r, i + 1 => nthO r i

/-- What hangs on somebody, to the bottom. -/
def clM (cs : List Nat) : List Nat → Nat → Nat
  | [], m => m
  | p :: r, m => clM cs r (Nat.lor m (Nat.lor (bit p) (nthN cs p)))

def closures : List Oper → List Nat → List Nat
  | [], cs => cs
  | o :: r, cs => closures r (cs ++ [clM cs (preds o) 0])

def backB : List Oper → Nat → Bool
  | [], _ => true
  | o :: r, k => match allB (fun i => Nat.blt i k) (preds o) with
    | true => backB r (k + 1)
    | false => false

/-- The number of the operation that writes t. -/
def wrOf : List Oper → Nat → Nat → Option Nat
  | [], _, _ => none
  | o :: r, k, t => match (match o.dst with | some d => Nat.beq d t | none => false) with
    | true => some k
    | false => wrOf r (k + 1) t

/-- The writer of a temporary that operation i looks at is waited for, or waits itself. -/
def seesB (all : List Oper) (cs : List Nat) : List Oper → Nat → Bool
  | [], _ => true
  | o :: r, i => match allB (fun t => match wrOf all 0 t with
      | none => true
      | some k => (match memN (preds o) k, hasM (nthN cs k) i, Nat.beq k i with
        | false, false, false => false
        | _, _, _ => true)) (looks all o) with
    | true => seesB all cs r (i + 1)
    | false => false

def orB : Bool → Bool → Bool
  | true, _ => true
  | false, x => x

def kpOf (c : Nat) : Bool := Nat.beq (Nat.mod c 2) 1
def ixOf (c : Nat) : Nat := Nat.div c 2

/-- The orders in which a region may go, as a tree: 2 i, or 2 i + 1 where what was there must lie behind operation i as it lay; 'alt': either. -/
inductive OT where
  | nil
  | one (c : Nat) (t : OT)
  | alt (s t : OT)

/-- A tree out of numbers: 0 the end, 1 either, c + 2 one. -/
def toT : Nat → List Nat → OT × List Nat
  | 0, l => (.nil, l)
  | _ + 1, [] => (.nil, [])
  | _ + 1, 0 :: r => (.nil, r)
  | n + 1, 1 :: r => (match toT n r with
    | (s, r') => (match toT n r' with
      | (t, r'') => (.alt s t, r'')))
  | n + 1, (c + 2) :: r => (match toT n r with
    | (t, r') => (.one c t, r'))
def treeOf (l : List Nat) : OT := match toT (l.length + 1) l with | (t, _) => t

def headsM : OT → Nat
  | .nil => 0
  | .one c _ => bit (ixOf c)
  | .alt s t => Nat.lor (headsM s) (headsM t)

/-- Each way begins with one that is not quiet. -/
def hardHd (P : Program) (all : List Oper) : OT → Bool
  | .nil => false
  | .one c _ => (match nthO all (ixOf c) with
    | some o => (match quietOp P o.op with | true => false | false => true)
    | none => false)
  | .alt s t => (match hardHd P all s with
    | true => hardHd P all t
    | false => false)

/-- Each that is not quiet and was not carried out is among the heads, or hangs on one of them. -/
def covB (P : Program) (cs : List Nat) (before H : Nat) : List Oper → Nat → Bool
  | [], _ => true
  | o :: r, k => match orB (quietOp P o.op) (orB (hasM before k) (orB (hasM H k) (match Nat.beq (Nat.land (nthN cs k) H) 0 with | true => false | false => true))) with
    | true => covB P cs before H r (k + 1)
    | false => false

/-- The tree is one of orders: each waits for those ahead of it alone; a quiet one behind one that is not quiet waits for somebody since then; of those that are not quiet the heads alone can be the next one;
  one that is not quiet waits (or: what was there lies as it lay) for all that read. -/
def chkT (P : Program) (all : List Oper) (cs : List Nat) : OT → (before since rds : Nat) → Bool → (H : Nat) → Bool
  | .nil, before, _, _, _, _ => subM (maskOf (List.range all.length)) before
  | .one c r, before, since, rds, any, H => match nthO all (ixOf c) with
    | none => false
    | some o => match subM (maskOf (preds o)) before, hasM before (ixOf c) with
      | true, false => (match quietOp P o.op with
        | true => (match orB (match any with | true => false | false => true) (match Nat.beq (Nat.land (maskOf (preds o)) since) 0 with | true => false | false => true) with
          | true => chkT P all cs r (Nat.lor before (bit (ixOf c))) (Nat.lor since (bit (ixOf c))) (Nat.lor rds (match readsOp o.op with | true => bit (ixOf c) | false => 0)) any (headsM r)
          | false => false)
        | false => (match covB P cs before H all 0, orB (kpOf c) (subM rds (nthN cs (ixOf c))) with
          | true, true => chkT P all cs r (Nat.lor before (bit (ixOf c))) (bit (ixOf c)) rds true (headsM r)
          | _, _ => false))
      | _, _ => false
  | .alt s t, before, since, rds, any, H => match hardHd P all s, hardHd P all t, chkT P all cs s before since rds any H, chkT P all cs t before since rds any H with
    | true, true, true, true => true
    | _, _, _, _ => false

def noSel : Op → Bool
  | .select _ _ => false
  | _ => true

def drawOk (P : Program) (N : Nat) (ops : List Oper) (od : OT) : Bool :=
  match allB (fun o => noSel o.op) ops, allB (fun d => Nat.blt d N) (dstsOf ops), noDup (dstsOf ops), backB ops 0, chkT P ops (closures ops []) od 0 0 0 false (headsM od), seesB ops (closures ops []) ops 0 with
  | true, true, true, true, true, true => true
  | _, _, _, _, _, _ => false

/-- The operations of a region in each order of the tree. -/
def vcOrd (P : Program) (N : Nat) (all : List Oper) : OT → (St → World → Prop) → St → World → Prop
  | .nil, K, st, w => K { st with ge := [] } w
  | .one c rest, K, st, w => match nthO all (ixOf c) with
    | none => False
    | some o => match okDst N st o.dst with
      | false => False
      | true => match o.guard with
        | none => oneOp P st o w fun v w' => match kpOf c with
          | true => Same w w' ∧ vcOrd P N all rest K (put st o.dst v) w'
          | false => vcOrd P N all rest K (put st o.dst v) w'
        | some (j, t) => match gdst all j with
          | none => False
          | some s => gstep P o s t (fun st' w' => match kpOf c with
            | true => Same w w' ∧ vcOrd P N all rest K st' w'
            | false => vcOrd P N all rest K st' w') [(), (), (), ()] st w
  | .alt s t, K, st, w => vcOrd P N all s K st w ∧ vcOrd P N all t K st w

def lkO : List (Nat × List Nat) → Nat → List Nat
  | [], _ => []
  | (j, x) :: r, i => match Nat.beq j i with
    | true => x
    | false => lkO r i

def vcRegion (P : Program) (N : Nat) (od : List Nat) (ops : List Oper) (draw : Bool) (K : St → World → Prop) (st : St) (w : World) : Prop :=
  match draw with
  | false => vcOps P N ops ops K st w
  | true => match drawOk P N ops (treeOf od) with
    | true => ∀ w' : World, Drew w w' → vcOrd P N ops (treeOf od) K st w'
    | false => False

/-! The order that is wanted: reckoned on the bench, printed. Each quiet operation as early as it can be. -/
def takeQ (P : Program) : List (Nat × Oper) → Nat → List Nat → Nat → List (Nat × Oper) → List Nat × Nat × Nat × List (Nat × Oper)
  | [], s, got, rds, rest => (got.reverse, s, rds, rest.reverse)
  | n :: r, s, got, rds, rest => match quietOp P n.2.op, subM (maskOf (preds n.2)) s with
    | true, true => takeQ P r (Nat.lor s (bit n.1)) (n.1 :: got) (match readsOp n.2.op with | true => Nat.lor rds (bit n.1) | false => rds) rest
    | _, _ => takeQ P r s got rds (n :: rest)

/-- Those that are not quiet and may be the next one. -/
def readyH (P : Program) : List (Nat × Oper) → Nat → List Nat
  | [], _ => []
  | n :: r, s => match quietOp P n.2.op, subM (maskOf (preds n.2)) s with
    | false, true => n.1 :: readyH P r s
    | _, _ => readyH P r s

def without (h : Nat) : List (Nat × Oper) → List (Nat × Oper)
  | [] => []
  | n :: r => match Nat.beq n.1 h with | true => r | false => n :: without h r

def altsOf : List Nat → (Nat → List Nat) → List Nat
  | [], _ => [0]
  | [h], F => F h
  | h :: r, F => 1 :: (F h ++ altsOf r F)

def orderOf (P : Program) (cs : List Nat) : Nat → List (Nat × Oper) → Nat → Nat → List Nat
  | 0, _, _, _ => [0]
  | f + 1, l, s, rds =>
    match takeQ P l s [] rds [] with
    | (qs, s', rds', l') => qs.map (2 * · + 2) ++ altsOf (readyH P l' s') fun h => ((match subM rds' (nthN cs h) with | true => 2 * h | false => 2 * h + 1) + 2) :: orderOf P cs f (without h l') (Nat.lor s' (bit h)) rds'

def ordOf (P : Program) (ops : List Oper) : List Nat := orderOf P (closures ops []) (ops.length + 1) ((List.range ops.length).zip ops) 0 0

/-- Of all regions of a code that draw. -/
def ordsOf (P : Program) : Code → List (Nat × List Nat)
  | .region id ops draw => (match draw with | true => [(id, ordOf P ops.toList)] | false => [])
  | .seq a b => ordsOf P a ++ ordsOf P b
  | .cond _ a b => ordsOf P a ++ ordsOf P b
  | .block _ b => ordsOf P b
  | .loop b => ordsOf P b
  | .scope b => ordsOf P b
  | .rangeFunc _ _ a b => ordsOf P a ++ ordsOf P b
  | _ => []

/-! ### Code -/
def wrOps : List Oper → List (Nat × TypeId)
  | [] => []
  | o :: r => match o.dst with
    | some d => (d, o.type) :: wrOps r
    | none => wrOps r

def joinW : Option (List (Nat × TypeId)) → Option (List (Nat × TypeId)) → Option (List (Nat × TypeId))
  | some x, some y => some (x ++ y)
  | some x, none => some x
  | none, y => y

def isN : Option Nat → Bool
  | none => true
  | _ => false

def oBeq : Option Nat → Option Nat → Bool
  | none, none => true
  | some a, some b => Nat.beq a b
  | _, _ => false

/-- The temporaries written on the ways that end as t says (none: off the end; some id: by 'exit id'); none: there is no such way. -/
def wr (t : Option Nat) : Code → Option (List (Nat × TypeId))
  | .skip => (match isN t with | true => some [] | false => none)
  | .label _ => (match isN t with | true => some [] | false => none)
  | .region _ ops _ => (match isN t with | true => some (wrOps ops.toList) | false => none)
  | .seq a b => (match wr none a with
    | some x => (match isN t with
      | true => (match wr t b with | some y => some (x ++ y) | none => none)
      | false => joinW (match wr t b with | some y => some (x ++ y) | none => none) (wr t a))
    | none => (match isN t with | true => none | false => wr t a))
  | .cond _ a b => joinW (wr t a) (wr t b)
  | .block id b => (match isN t with
    | true => joinW (wr none b) (wr (some id) b)
    | false => (match oBeq t (some id) with | true => none | false => wr t b))
  | .loop b => (match isN t with
    | true => none
    | false => (match wr t b with
      | some y => (match wr none b with | some x => some (x ++ y) | none => some y)
      | none => none))
  | .exit id => (match oBeq t (some id) with | true => some [] | false => none)
  | .scope b => wr t b
  | .rangeFunc _ _ _ _ => some []
  | _ => none

/-- Does a code hold a range over a function? -/
def hasRg : Code → Bool
  | .seq a b => orB (hasRg a) (hasRg b)
  | .cond _ a b => orB (hasRg a) (hasRg b)
  | .block _ b => hasRg b
  | .loop b => hasRg b
  | .scope b => hasRg b
  | .rangeFunc _ _ _ _ => true
  | _ => false

def inW : List (Nat × TypeId) → Nat → Bool
  | [], _ => false
  | p :: r, i => match Nat.beq p.1 i with | true => true | false => inW r i

def inS : List (Nat × Ty) → Nat → Bool
  | [], _ => false
  | p :: r, i => match Nat.beq p.1 i with | true => true | false => inS r i

/-- What a loop hands on of a variable of a type. -/
def slotTy (P : Program) (t : TypeId) : Option Ty := match tyOf P t with
  | none => none
  | some ty => (match ty.big with
    | true => some { agg := false, ls := [.any], zero := .nilFunc, bytes := 0, big := false, n := 1 }
    | false => some ty)

/-- The written temporaries that are known already: what a loop hands on from round to round. -/
def carry (P : Program) (st : St) : List (Nat × TypeId) → Option (List (Nat × Ty))
  | [] => some []
  | p :: r => match carry P st r with
    | none => none
    | some acc => match inS acc p.1, lkE st.e p.1 with
      | true, _ => some acc
      | false, none => some acc
      | false, some _ => match slotTy P p.2 with
        | some ty => some ((p.1, ty) :: acc)
        | none => none

def lsOf : List (Nat × Ty) → List Leaf
  | [] => []
  | p :: r => p.2.ls ++ lsOf r

def cellsAs (agg : Bool) (x : Value) : Option (List Value) :=
  match agg, x with
  | true, .agg cs => some cs.toList
  | true, _ => none
  | false, v => some [v]

def slotVals (st : St) : List (Nat × Ty) → Option (List Value)
  | [] => some []
  | p :: r => match lkE st.e p.1, slotVals st r with
    | some x, some vs => (match cellsAs p.2.agg x.den with
      | some cs => (match Nat.beq cs.length p.2.ls.length with
        | true => some (cs ++ vs)
        | false => none)
      | none => none)
    | _, _ => none

def setSlots : List (Nat × Ty) → List Value → Option (List (Nat × Option SV))
  | [], _ => some []
  | p :: r, vs => match ofCells p.2.agg (vs.take p.2.ls.length), setSlots r (vs.drop p.2.ls.length) with
    | some x, some es => some ((p.1, some x) :: es)
    | _, _ => none

def blank : List (Nat × TypeId) → List (Nat × Option SV)
  | [] => []
  | p :: r => (p.1, none) :: blank r

def headSt (st : St) (ws : List (Nat × TypeId)) (slots : List (Nat × Ty)) (vs : List Value) : Option St :=
  match setSlots slots vs with
  | some es => some { e := es ++ (blank ws ++ st.e), ge := [], ds := st.ds }
  | none => none

/-- The number of the first region of a code. -/
def firstR : Code → Option Nat
  | .region id _ _ => some id
  | .seq a b => (match firstR a with | some i => some i | none => firstR b)
  | .block _ b => firstR b
  | .loop b => firstR b
  | .scope b => firstR b
  | _ => none

def cutHere (cuts : List Nat) (c : Code) : Bool := match firstR c with | some i => memN cuts i | none => false

def nth? {α : Type} : List α → Nat → Option α
  | [], _ => none
  | x :: _, 0 => some x
  | _ :: r, i + 1 => nth? r i

/-- Of the written temporaries those that bear a name. -/
def named (P : Program) (nm : List Bool) : List (Nat × TypeId) → Option (List (Nat × Ty))
  | [] => some []
  | p :: r => match named P nm r with
    | none => none
    | some acc => match inS acc p.1, nth? nm p.1 with
      | false, some true => (match slotTy P p.2 with
        | some ty => some ((p.1, ty) :: acc)
        | none => none)
      | _, _ => some acc

structure Cfg where
  N : Nat
  cuts : List Nat
  ords : List (Nat × List Nat)
  nm : List Bool
  rd : Option Nat

/-! ### A range over a function -/
/-- The type in which a loop variable is assigned. -/
def asgTy (t : Nat) : List Oper → Option TypeId
  | [] => none
  | o :: r => match (match o.op with
      | .assign (.tmp s) => Nat.beq s t
      | .box _ (.tmp s) => Nat.beq s t
      | .store _ _ (.tmp s) => Nat.beq s t
      | _ => false) with
    | true => (match o.op with
      | .box e _ => some e
      | .store e _ _ => some e
      | _ => some o.type)
    | false => asgTy t r

def regOps : Code → List Oper
  | .region _ ops _ => ops.toList
  | .seq a b => regOps a ++ regOps b
  | .scope a => regOps a
  | .block _ a => regOps a
  | _ => []

def anyTy : Ty := { agg := false, ls := [.any], zero := .nilFunc, bytes := 0, big := false, n := 1 }

def parTys (P : Program) (as : List Oper) : List Nat → Option (List (Nat × Ty))
  | [] => some []
  | t :: r => match asgTy t as, parTys P as r with
    | some ty, some ts => (match tyOf P ty with
      | some x => some ((t, x) :: ts)
      | none => none)
    | none, some ts => some ((t, anyTy) :: ts)
    | _, none => none

/-- The values of yield's arguments out of their cells. -/
def packL : List (Nat × Ty) → List Value → Option (List SV)
  | [], _ => some []
  | p :: r, vs => match ofCells p.2.agg (vs.take p.2.ls.length), packL r (vs.drop p.2.ls.length) with
    | some x, some xs => some (x :: xs)
    | _, _ => none

def zipE : List (Nat × Ty) → List SV → List (Nat × Option SV)
  | p :: r, x :: xs => (p.1, some x) :: zipE r xs
  | _, _ => []

def keysOf : List (Nat × Ty) → List Nat
  | [] => []
  | p :: r => p.1 :: keysOf r

def parsOk (N : Nat) (l : List Nat) : Bool := match noDup l with | true => allB (fun i => Nat.blt i N) l | false => false

/-- The exits by which a code may be left for a block around it. -/
def exitsOf (inner : List Nat) : Code → List Nat
  | .seq a b => exitsOf inner a ++ exitsOf inner b
  | .cond _ a b => exitsOf inner a ++ exitsOf inner b
  | .block id b => exitsOf (id :: inner) b
  | .loop b => exitsOf inner b
  | .scope b => exitsOf inner b
  | .rangeFunc _ _ a b => exitsOf inner a ++ exitsOf inner b
  | .exit id => (match memN inner id with | true => [] | false => [id])
  | _ => []

def rets : Code → Bool
  | .seq a b => orB (rets a) (rets b)
  | .cond _ a b => orB (rets a) (rets b)
  | .block _ b => rets b
  | .loop b => rets b
  | .scope b => rets b
  | .rangeFunc _ _ _ b => rets b
  | .ret => true
  | _ => false

def OrIds (F : Nat → Prop) (last : Prop) : List Nat → Prop
  | [] => last
  | id :: r => F id ∨ OrIds F last r

/-- The loop's record at l is k's: 0 a round may begin, 1 in a round, 2 over, 3 left by 'return', 4 over then, 5 + 2 i left for block i, 6 + 2 i over then. -/
def Rec (r : Nat → Loop) (l k : Nat) (w : World) : Prop := w.heap[l]? = some (.loop (r k))
def turn (r : Nat → Loop) (l k : Nat) (w : World) : World := w.putObj l (.loop (r k))

/-- The loop has begun: its block for deferred calls, its record. -/
def Began (w : World) (r : Nat → Loop) (d l : Nat) (w1 : World) : Prop := d = w.heap.size ∧ l = w.heap.size + 1 ∧ w1 = (w.alloc (.deferred (some []))).alloc (.loop (r 0))

/-- Open deferred blocks, all unlike, none of them below B. -/
def Open (B : Nat) (ds : List Nat) (w : World) : Prop := ds.Nodup ∧ ∀ d ∈ ds, B ≤ d ∧ w.heap[d]? = some (.deferred (some []))

/-- How the statement goes on when the iterator has returned. -/
def ranged (r : Nat → Loop) (l : Nat) (ret : Bool) (exs : List Nat) (Q : Exit → St → World → Prop) (st' : St) (W : World) : Prop :=
  (Rec r l 0 W ∧ Q .normal st' (turn r l 2 W)) ∨ (match ret with
    | true => (Rec r l 3 W ∧ Q .ret st' (turn r l 4 W)) ∨ OrIds (fun id => Rec r l (5 + 2 * id) W ∧ Q (.exit id) st' (turn r l (6 + 2 * id) W)) False exs
    | false => OrIds (fun id => Rec r l (5 + 2 * id) W ∧ Q (.exit id) st' (turn r l (6 + 2 * id) W)) False exs)

/-- A range over a function: 'round' is a round: the assignment to its variables, then the body. -/
def rangeVC (P : Program) (g : FuncId) (lb : List Value) (ts : List (Nat × Ty)) (r : Nat → Loop) (l : Nat) (ret : Bool) (exs : List Nat) (Q : Exit → St → World → Prop) (st' : St) (w1 : World)
    (round : List SV → (Bool → World → Prop) → World → Prop) : Prop :=
    (AllL (lsOf ts) fun vs => match packL ts vs with
      | none => True
      | some xs => ∀ (W : World) (R : Bool → World → Prop), Rec r l 0 W → round xs R W → Yield P l (dens xs).toArray W R) →
    Calls P g (.func (.yield l) #[] #[] :: lb).toArray w1 fun e W => (∃ v : Value, e = .returned v) ∧ ranged r l ret exs Q st' W

def pushes (C : Cfg) (b : Bool) : Bool := match C.rd with | none => b | some _ => false

/-- Where a code may lay blocks for deferred calls: they are open, whichever there are. -/
def opens (C : Cfg) (b : Bool) (B : Nat) (ds : List Nat) (w : World) (X : Prop) : Prop := match pushes C b with
  | true => Open B ds w ∧ X
  | false => X
def allDs (C : Cfg) (b : Bool) (B : Nat) (ds : List Nat) (w : World) (K : List Nat → Prop) : Prop := match pushes C b with
  | true => ∀ ds', Open B ds' w → K ds'
  | false => K ds
def withB (C : Cfg) (b : Bool) (K : Nat → Prop) : Prop := match pushes C b with
  | true => ∃ B : Nat, K B
  | false => K 0

def vc (P : Program) : Cfg → Code → (Exit → St → World → Prop) → St → World → Prop
  | C, .skip, Q, st, w => Q .normal st w
  | C, .label _, Q, st, w => Q .normal st w
  | C, .exit id, Q, st, w => Q (.exit id) st w
  | C, .ret, Q, st, w => Q .ret st w
  | C, .region id ops draw, Q, st, w => vcRegion P C.N (lkO C.ords id) ops.toList draw (fun st' w' => Q .normal st' w') st w
  | C, .cond c a b, Q, st, w => (match ev st [] c with
    | some (.b true) => vc P C a Q st w
    | some (.b false) => vc P C b Q st w
    | some x => (match cndOf x with
      | some g => (g.is true → vc P C a Q st w) ∧ (g.is false → vc P C b Q st w)
      | none => False)
    | none => False)
  | C, .block id b, Q, st, w => vc P C b (fun ex st' w' => match ex with
    | .exit j => (match Nat.beq j id with | true => Q .normal st' w' | false => Q (.exit j) st' w')
    | e => Q e st' w') st w
  | C, .scope b, Q, st, w => vc P C b (fun ex st' w' => match ex with
    | .goto _ => False
    | e => Q e st' w') st w
  | C, .seq a b, Q, st, w => (match cutHere C.cuts b with
    | false => vc P C a (fun ex st' w' => match ex with
      | .normal => vc P C b Q st' w'
      | e => Q e st' w') st w
    | true => (match wr none a with
      | none => vc P C a (fun ex st' w' => match ex with
        | .normal => False
        | e => Q e st' w') st w
      | some ws => (match named P C.nm ws with
        | none => False
        | some slots => ∃ J : Tel (World → Prop) (lsOf slots), withB C (hasRg a) fun B =>
          vc P C a (fun ex st' w' => match ex with
            | .normal => opens C (hasRg a) B st'.ds w' (match slotVals st' slots with | some vs => atI J vs w' | none => False)
            | e => Q e st' w') st w ∧
          AllL (lsOf slots) fun vs => ∀ w' : World, atI J vs w' → (match headSt st ws slots vs with
            | some st1 => allDs C (hasRg a) B st.ds w' fun ds => vc P C b Q { st1 with ds := ds } w'
            | none => False))))
  | C, .loop b, Q, st, w => (match wr none b with
    | none => vc P C b (fun ex st' w' => match ex with
      | .normal => False
      | e => Q e st' w') st w
    | some ws => (match carry P st ws with
      | none => False
      | some slots => (match slotVals st slots with
        | none => False
        | some vs0 => ∃ (I : Tel (World → Prop) (lsOf slots)) (M : Tel (World → Nat) (lsOf slots)), withB C (hasRg b) fun B => atI I vs0 w ∧ opens C (hasRg b) B st.ds w (
          AllL (lsOf slots) fun vs => ∀ w' : World, atI I vs w' → (match headSt st ws slots vs with
            | none => False
            | some st1 => allDs C (hasRg b) B st.ds w' fun ds => vc P C b (fun ex st' w'' => match ex with
              | .normal => opens C (hasRg b) B st'.ds w'' (match slotVals st' slots with
                | some vs' => atI I vs' w'' ∧ atN M vs' w'' < atN M vs w'
                | none => False)
              | e => Q e st' w'') { st1 with ds := ds } w')))))
  | C, .rangeFunc f ps asg body, Q, st, w => (match ev st [] f, parTys P (regOps asg) ps.toList with
    | some (.v fv), some ts => (match parsOk C.N (keysOf ts) with
      | true => ∃ (g : FuncId) (lb : Array Value), fv = .func (.func g) #[] lb ∧ enterable P g = true ∧ (match C.rd with
        | none => ∀ (r : Nat → Loop) (d l : Nat) (w1 : World), Began w r d l w1 → rangeVC P g lb.toList ts r l (rets body) (exitsOf [] body) Q { st with ds := d :: st.ds } w1 fun xs R W =>
            vc P { C with rd := some l } asg (fun ex st2 Wa => match ex with
              | .normal => Rec r l 0 Wa ∧ ∀ Wb : World, Wb = turn r l 1 Wa → vc P { C with rd := some l } body (fun ex _ W3 => Rec r l 1 W3 ∧ (match ex with
                | .normal => R true (turn r l 0 W3)
                | .ret => R false (turn r l 3 W3)
                | .exit id => R false (turn r l (5 + 2 * id) W3)
                | _ => False)) st2 Wb
              | _ => False) { e := zipE ts xs ++ st.e, ge := [], ds := [] } W
        | some l0 => (∃ q : Loop, w.heap[l0]? = some (.loop q)) ∧ ∀ (r : Nat → Loop) (l : Nat) (w1 : World), New w (.loop (r 0)) l w1 → rangeVC P g lb.toList ts r l (rets body) (exitsOf [] body) Q st w1 fun xs R W =>
            vc P { C with rd := some l } asg (fun ex st2 Wa => match ex with
              | .normal => Rec r l 0 Wa ∧ ∀ Wb : World, Wb = turn r l 1 Wa → vc P { C with rd := some l } body (fun ex _ W3 => Rec r l 1 W3 ∧ (match ex with
                | .normal => R true (turn r l 0 W3)
                | .ret => R false (turn r l 3 W3)
                | .exit id => R false (turn r l (5 + 2 * id) W3)
                | _ => False)) st2 Wb
              | _ => False) { e := zipE ts xs ++ st.e, ge := [], ds := [] } W)
      | false => False)
    | _, _ => False)
  | _, _, _, _, _ => False

/-! ### A function -/
def resVC (P : Program) (st : St) (w : World) : List ResultVar → (List SV → Prop) → Prop
  | [], F => F []
  | .tmp t :: r, F => (match lkE st.e t with
    | some x => resVC P st w r fun xs => F (x :: xs)
    | none => False)
  | .cell d t :: r, F => (match lkE st.e d, tyOf P t with
    | some a, some ty => asPtr a fun b o => loadT ty b o w fun x => resVC P st w r fun xs => F (x :: xs)
    | _, _ => False)

/-- The blocks for the rounds' deferred calls are taken, one behind the other. -/
def unD : List Nat → World → (World → Prop) → Prop
  | [], w, F => F w
  | d :: r, w, F => w.heap[d]? = some (.deferred (some [])) ∧ unD r (w.putObj d (.deferred none)) F

def retQ (P : Program) (fn : Func) (R : Ending → World → Prop) : Exit → St → World → Prop
  | .normal, st, w => unD st.ds w fun w' => resVC P st w' fn.results.toList fun xs => R (.returned (ofResults xs).den) w'
  | .ret, st, w => unD st.ds w fun w' => resVC P st w' fn.results.toList fun xs => R (.returned (ofResults xs).den) w'
  | _, _, _ => False

def initE : List Value → Nat → List (Nat × Option SV)
  | [], _ => []
  | v :: r, i => (i, some (.v v)) :: initE r (i + 1)

def namesB : List String → List Bool
  | [] => []
  | s :: r => (match s.toList with | [] => false | _ => true) :: namesB r

def cfgOf (cuts : List Nat) (ords : List (Nat × List Nat)) (fn : Func) : Cfg := { N := fn.ntmps, cuts := cuts, ords := ords, nm := namesB fn.tmpNames.toList, rd := none }

/-- The verification condition of a call of fn. -/
def vcFn (P : Program) (cuts : List Nat) (ords : List (Nat × List Nat)) (fn : Func) (args : List Value) (w : World) (R : Ending → World → Prop) : Prop :=
  match fn.body with
  | none => False
  | some c => match Nat.ble args.length fn.ntmps with
    | true => vc P (cfgOf cuts ords fn) c (retQ P fn R) { e := initE args 0, ge := [], ds := [] } w
    | false => False

end Go.Vc
