/-
  A verification-condition generator for the model's code, as plain functions. 'vc' walks a code with an environment that says
  what is known of each temporary, and yields a proposition about data and worlds alone. VcSound proves it sound over 'wpIn'.
-/
import Derived.WalkKit
import Derived.WalkLawsBesides
import Derived.RangeFuncNested
import Derived.RangeFuncLeaves
namespace Go.Vc
open Go

/-- The wide fence, in a round or in none. -/
def FW (rd : Option Nat) : Fence := { fn := fun _ => True, depth := none, alive := false, round := rd }

/-! ### What is known of a temporary -/
inductive SV where
  | v (x : Value)
  | b (x : Bool)
  | loc (b o : Nat)

def SV.den : SV → Value
  | .v x => x
  | .b x => .bool x
  | .loc k o => .pointer (some ⟨k, o, none⟩)

structure Gd where
  i : Nat
  s : Nat
  t : Bool
  x : SV

structure St where
  e : List (Nat × Option SV)
  ge : List Gd
  ds : List Nat

def bq : Bool → Bool → Bool
  | true, x => x
  | false, true => false
  | false, false => true

def lkE : List (Nat × Option SV) → Nat → Option SV
  | [], _ => none
  | (j, x) :: r, i => match Nat.beq j i with
    | true => x
    | false => lkE r i

def lkG : List Gd → Nat → Option Gd
  | [], _ => none
  | g :: r, i => match Nat.beq g.i i with
    | true => some g
    | false => lkG r i

def hasC : List (Nat × Bool) → Nat → Bool → Bool
  | [], _, _ => false
  | (j, u) :: r, s, t => match Nat.beq j s, bq u t with
    | true, true => true
    | _, _ => hasC r s t

/-- The value of temporary i, the guards 'c' being known to hold. -/
def lk (st : St) (c : List (Nat × Bool)) (i : Nat) : Option SV :=
  match lkE st.e i with
  | some x => some x
  | none => match lkG st.ge i with
    | none => none
    | some g => match hasC c g.s g.t with
      | true => some g.x
      | false => match lkE st.e g.s with
        | some (.b u) => (match bq u g.t with
          | true => some g.x
          | false => none)
        | _ => none

def ofConst : Value → SV
  | .bool b => .b b
  | v => .v v

def ev (st : St) (c : List (Nat × Bool)) : Operand → Option SV
  | .tmp i => lk st c i
  | .const v => some (ofConst v)
  | .global g => some (.loc g 0)
  | .func f => some (.v (.func (.func f) #[] #[]))

def evs (st : St) (c : List (Nat × Bool)) : List Operand → Option (List SV)
  | [] => some []
  | x :: r => match ev st c x, evs st c r with
    | some y, some ys => some (y :: ys)
    | _, _ => none

def noG : List Gd → Nat → Bool
  | [], _ => true
  | g :: r, d => match Nat.beq g.s d with
    | true => false
    | false => noG r d

def put (st : St) : Option Nat → SV → St
  | none, _ => st
  | some d, x => { st with e := (d, some x) :: st.e }

def putG (st : St) (d s : Nat) (t : Bool) (x : SV) : St := { st with e := (d, none) :: st.e, ge := ⟨d, s, t, x⟩ :: st.ge }

def okDst (N : Nat) (st : St) : Option Nat → Bool
  | none => true
  | some d => match Nat.blt d N with
    | true => noG st.ge d
    | false => false

/-! ### Numbers, bools, strings -/
def kid : IntKind → Nat
  | .i8 => 0 | .i16 => 1 | .i32 => 2 | .i64 => 3 | .u8 => 4 | .u16 => 5 | .u32 => 6 | .u64 => 7

def shlI (k : IntKind) (x : Int) (n : Nat) : Int := k.wrap (x * 2 ^ (min n k.bits))
def shrI (k : IntKind) (x : Int) (n : Nat) : Int := x.fdiv (2 ^ (min n k.bits))
def quoI (k : IntKind) (x y : Int) : Int := k.wrap (x.tdiv y)
def remI (x y : Int) : Int := x.tmod y
def sEq (x y : ByteArray) : Bool := x.toList == y.toList
def sLt (x y : ByteArray) : Bool := Op.bytesLess x.toList y.toList
/-- Byte i of a string. -/
def bAt (s : ByteArray) (i : Nat) : Int := ((s.data.toList.getD i 0).toNat : Int)

def mkB : SV → Option Bool
  | .b x => some x
  | .v (.bool x) => some x
  | _ => none

def notB : SV → Option SV
  | .b x => some (.b (match x with | true => false | false => true))
  | .v (.bool x) => some (.v (.bool (!x)))
  | _ => none

def isNilOp : Operand → Bool
  | .const (.slice none 0 0) => true
  | .const (.pointer none) => true
  | .const (.map none) => true
  | _ => false

def pickV (c : Bool) : SV → SV → Option SV
  | .b true, y => (match mkB y with | some y => some (.v (.bool (c || y))) | none => none)
  | .b false, y => (match mkB y with | some y => some (.v (.bool (!c && y))) | none => none)
  | .v (.bool x), .b false => some (.v (.bool (c && x)))
  | .v (.bool x), .b true => some (.v (.bool (!c || x)))
  | .v (.bool x), .v (.bool y) => some (.v (.bool (bif c then x else y)))
  | .v (.int k x), .v (.int k' y) => (match Nat.beq (kid k) (kid k') with | true => some (.v (.int k (bif c then x else y))) | false => none)
  | _, _ => none

/-- Binary operators that cannot fail. -/
def arith (op : BinOp) (k : IntKind) (a b : Int) : Option SV :=
  match op with
  | .add => some (.v (.int k (k.wrap (a + b))))
  | .sub => some (.v (.int k (k.wrap (a - b))))
  | .mul => some (.v (.int k (k.wrap (a * b))))
  | .and => some (.v (.int k (bits .and k a b)))
  | .or => some (.v (.int k (bits .or k a b)))
  | .xor => some (.v (.int k (bits .xor k a b)))
  | .andNot => some (.v (.int k (bits .andNot k a b)))
  | .eql => some (.v (.bool (a == b)))
  | .neq => some (.v (.bool (a != b)))
  | .lss => some (.v (.bool (decide (a < b))))
  | .leq => some (.v (.bool (decide (a ≤ b))))
  | .gtr => some (.v (.bool (decide (a > b))))
  | .geq => some (.v (.bool (decide (a ≥ b))))
  | _ => none

def strOp (op : BinOp) (a b : ByteArray) : Option SV :=
  match op with
  | .eql => some (.v (.bool (sEq a b)))
  | .neq => some (.v (.bool (!sEq a b)))
  | .lss => some (.v (.bool (sLt a b)))
  | .leq => some (.v (.bool (sLt a b || sEq a b)))
  | .gtr => some (.v (.bool (!(sLt a b || sEq a b))))
  | .geq => some (.v (.bool (!sLt a b)))
  | _ => none

def posNat : Value → Option Nat
  | .int _ (.ofNat n) => some n
  | _ => none

/-- By a constant that is not 0, or a shift by a constant that is not below 0. -/
def byConst (op : BinOp) (k : IntKind) (a : Int) (c : Value) : Option SV :=
  match op, posNat c with
  | .shl, some n => some (.v (.int k (shlI k a n)))
  | .shr, some n => some (.v (.int k (shrI k a n)))
  | .quo, some (n + 1) => some (.v (.int k (quoI k a (Int.ofNat (n + 1)))))
  | .rem, some (n + 1) => some (.v (.int k (remI a (Int.ofNat (n + 1)))))
  | _, _ => none

def sameK (k k' : IntKind) (x : Option SV) : Option SV := match Nat.beq (kid k) (kid k') with | true => x | false => none

def shiftsB : BinOp → Bool
  | .shl => true | .shr => true | _ => false

def binPure (op : BinOp) (y : Operand) (a b : SV) : Option SV :=
  match a, b with
  | .v (.int k x), .v (.int k' z) =>
    (match y with
      | .const c => (match byConst op k x c with
        | some r => (match shiftsB op with | true => some r | false => sameK k k' (some r))
        | none => sameK k k' (arith op k x z))
      | _ => sameK k k' (arith op k x z))
  | .v (.string x), .v (.string z) => strOp op x z
  | _, _ => none

def eqbB (x y : Bool) : Bool := x == y

def negP (op : BinOp) (r : Bool) : Option SV :=
  match op with
  | .eql => some (.v (.bool r))
  | .neq => some (.v (.bool (!r)))
  | _ => none

/-- Comparisons of bools, of slices and pointers and maps with nil; by the operands' type. -/
def eqPure (d : Option TypeDesc) (op : BinOp) (a b : SV) : Option SV :=
  match d with
  | some .bool => (match mkB a, mkB b with | some x, some y => negP op (eqbB x y) | _, _ => none)
  | some (.slice _) => (match a, b with
    | .v (.slice p _ _), .v (.slice none 0 0) => negP op p.isNone
    | _, _ => none)
  | some (.pointer _) => (match a, b with
    | .v (.pointer p), .v (.pointer none) => negP op p.isNone
    | .loc _ _, .v (.pointer none) => (match op with | .eql => some (.b false) | .neq => some (.b true) | _ => none)
    | _, _ => none)
  | _ => none

/-! ### Types -/
inductive Leaf where
  | int (k : IntKind)
  | bool
  | str
  | slc
  | ptr
  | map
  | any

def leafOf : Value → Leaf
  | .int k _ => .int k
  | .bool _ => .bool
  | .string _ => .str
  | .slice _ _ _ => .slc
  | .pointer _ => .ptr
  | .map _ => .map
  | _ => .any

def isAggD : Option TypeDesc → Bool
  | some (.struct _) => true
  | some (.array _ _) => true
  | _ => false

def leavesOf : List Value → List Leaf
  | [] => []
  | v :: r => leafOf v :: leavesOf r

structure Ty where
  agg : Bool
  ls : List Leaf
  zero : Value
  bytes : Nat

/-- Of a type: is it a struct or an array; its cells' kinds; its zero value; its bytes. -/
def tyOf (P : Program) (t : TypeId) : Option Ty :=
  match P.info? t with
  | none => none
  | some i => match i.zero with
    | none => none
    | some z => match P.underlying t with
      | none => none
      | some d => match Nat.beq i.size z.cells.toList.length with
        | true => some { agg := isAggD (some d), ls := leavesOf z.cells.toList, zero := z, bytes := i.bytes }
        | false => none

def sizeT (P : Program) (t : TypeId) : Option Nat := match P.info? t with | some i => some i.size | none => none

def Leaf.Ex : Leaf → (Value → Prop) → Prop
  | .int k, F => ∃ n : Int, F (.int k n)
  | .bool, F => ∃ b : Bool, F (.bool b)
  | .str, F => ∃ s : ByteArray, F (.string s)
  | .slc, F => ∃ (p : Option Addr) (n c : Nat), F (.slice p n c)
  | .ptr, F => ∃ p : Option Addr, F (.pointer p)
  | .map, F => ∃ r : Option Nat, F (.map r)
  | .any, F => ∃ v : Value, F v

def ExL : List Leaf → (List Value → Prop) → Prop
  | [], F => F []
  | l :: ls, F => l.Ex fun v => ExL ls fun vs => F (v :: vs)

def AllL : List Leaf → (List Value → Prop) → Prop
  | [], F => F []
  | .int k :: ls, F => ∀ n : Int, AllL ls fun vs => F (.int k n :: vs)
  | .bool :: ls, F => ∀ b : Bool, AllL ls fun vs => F (.bool b :: vs)
  | .str :: ls, F => ∀ s : ByteArray, AllL ls fun vs => F (.string s :: vs)
  | .slc :: ls, F => ∀ (p : Option Addr) (n c : Nat), AllL ls fun vs => F (.slice p n c :: vs)
  | .ptr :: ls, F => ∀ p : Option Addr, AllL ls fun vs => F (.pointer p :: vs)
  | .map :: ls, F => ∀ r : Option Nat, AllL ls fun vs => F (.map r :: vs)
  | .any :: ls, F => ∀ v : Value, AllL ls fun vs => F (v :: vs)

/-- A value of a type out of its cells. -/
def ofCells : Bool → List Value → Option SV
  | true, vs => some (.v (.agg vs.toArray))
  | false, [.bool b] => some (.v (.bool b))
  | false, [v] => some (.v v)
  | _, _ => none

/-- 'there is a value of the type, such that'. -/
def ExT (t : Ty) (F : SV → Prop) : Prop := ExL t.ls fun vs => match ofCells t.agg vs with | some x => F x | none => False

/-- Curried: over the cells of the slots that a loop hands on. -/
def Tel (R : Type) : List Leaf → Type
  | [] => R
  | .int _ :: ls => Int → Tel R ls
  | .bool :: ls => Bool → Tel R ls
  | .str :: ls => ByteArray → Tel R ls
  | .slc :: ls => Option Addr → Nat → Nat → Tel R ls
  | .ptr :: ls => Option Addr → Tel R ls
  | .map :: ls => Option Nat → Tel R ls
  | .any :: ls => Value → Tel R ls

def app {R : Type} : (ls : List Leaf) → Tel R ls → List Value → Option R
  | [], f, [] => some f
  | .int k :: ls, f, .int k' n :: vs => (match Nat.beq (kid k) (kid k') with | true => app ls (f n) vs | false => none)
  | .bool :: ls, f, .bool b :: vs => app ls (f b) vs
  | .str :: ls, f, .string s :: vs => app ls (f s) vs
  | .slc :: ls, f, .slice p n c :: vs => app ls (f p n c) vs
  | .ptr :: ls, f, .pointer p :: vs => app ls (f p) vs
  | .map :: ls, f, .map r :: vs => app ls (f r) vs
  | .any :: ls, f, v :: vs => app ls (f v) vs
  | _, _, _ => none

def atI {ls : List Leaf} (I : Tel (World → Prop) ls) (vs : List Value) (w : World) : Prop := match app ls I vs with | some p => p w | none => False
def atN {ls : List Leaf} (M : Tel (World → Nat) ls) (vs : List Value) (w : World) : Nat := match app ls M vs with | some p => p w | none => 0

/-! ### Memory -/
def off (o : Nat) : Nat → Nat
  | 0 => o
  | k + 1 => o + (k + 1)

def scale (k s : Nat) : Nat := match Nat.beq s 1 with | true => k | false => k * s

def loadL : List Leaf → (b o j : Nat) → World → (List Value → Prop) → Prop
  | [], _, _, _, _, F => F []
  | l :: ls, b, o, j, w, F => l.Ex fun v => w.cell? ⟨b, off o j, none⟩ = some v ∧ loadL ls b o (j + 1) w fun vs => F (v :: vs)

def storeL : List Value → (b o j : Nat) → World → (World → Prop) → Prop
  | [], _, _, _, w, F => F w
  | v :: vs, b, o, j, w, F => match v.oneCell' with
    | true => (∃ u, w.cell? ⟨b, off o j, none⟩ = some u) ∧ w.frozen? ⟨b, off o j, none⟩ = false ∧ storeL vs b o (j + 1) (w.setCell ⟨b, off o j, none⟩ v) F
    | false => False

def asPtr (x : SV) (F : Nat → Nat → Prop) : Prop :=
  match x with
  | .loc b o => F b o
  | .v (.pointer p) => ∃ b o, p = some ⟨b, o, none⟩ ∧ F b o
  | _ => False

/-- Where 's[lo:hi:max]' begins. -/
def slBase (p : Option Addr) (l m size : Nat) : Option Addr := if m = l then p else p.map (·.add (l * size))

/-- The bytes that a slice of bytes holds. -/
def BytesAt (w : World) (p : Option Addr) (n : Nat) (l : List UInt8) : Prop :=
  l.length = n ∧ (0 < n → ∃ b o, p = some ⟨b, o, none⟩ ∧ ∀ i (h : i < l.length), w.cell? ⟨b, o + i, none⟩ = some (.int .u8 ((l[i].toNat : Nat) : Int)))

def fieldAt? (P : Program) (s : TypeId) (f : Nat) : Option (Nat × TypeId) :=
  match P.underlying s with
  | some (.struct fs) => (match fs.toList[f]? with
    | some x => some (x.offset, x.type)
    | none => none)
  | _ => none

def nthV : List Value → Nat → Option Value
  | [], _ => none
  | v :: _, 0 => some v
  | _ :: r, i + 1 => nthV r i

def cut (l : List Value) (a n : Nat) : List Value := (l.drop a).take n

def partL (P : Program) (t : TypeId) (cs : List Value) (o : Nat) : Option SV :=
  match tyOf P t with
  | none => none
  | some ty => match ty.agg with
    | true => some (.v (.agg (cut cs o ty.ls.length).toArray))
    | false => match nthV cs o with
      | some (.bool b) => some (.v (.bool b))
      | some v => some (.v v)
      | none => none

def enterable (P : Program) (f : FuncId) : Bool :=
  match P.funcs[f]? with
  | none => false
  | some fn => fn.body.isSome && !(fn.name == "runtime.NumGoroutine")

def resTys (P : Program) (f : FuncId) : Option (List (Option Ty)) :=
  match P.funcs[f]? with
  | none => none
  | some fn => some (fn.resultTypes.toList.map (tyOf P))

def ExTs : List (Option Ty) → (List SV → Prop) → Prop
  | [], F => F []
  | none :: _, _ => False
  | some t :: ts, F => ExT t fun x => ExTs ts fun xs => F (x :: xs)

/-- What a call hands back. -/
def ofResults : List SV → SV
  | [x] => x
  | xs => .v (.tuple (xs.map SV.den).toArray)

/-! ### Operations without a choice -/
def dens : List SV → List Value
  | [] => []
  | x :: r => x.den :: dens r

def evParts (st : St) (c : List (Nat × Bool)) : List (Nat × Operand) → Option (List (Nat × Value))
  | [] => some []
  | (i, x) :: r => match ev st c x, evParts st c r with
    | some y, some ys => some ((i, y.den) :: ys)
    | _, _ => none

def mmI (mx : Bool) (x y : Int) : Int := match mx with
  | true => if y > x then y else x
  | false => if y < x then y else x

def lenPure (P : Program) (t : TypeId) (x : SV) : Option SV :=
  match P.underlying t, x with
  | some (.slice _), .v (.slice _ n _) => some (.v (.int .i64 (n : Int)))
  | some .string, .v (.string s) => some (.v (.int .i64 (s.size : Int)))
  | some (.array n _), _ => some (.v (.int .i64 (n : Int)))
  | _, _ => none

def convPure (P : Program) (dst : TypeId) (x : SV) : Option SV :=
  match x with
  | .v (.int _ n) => (match P.underlying dst with | some (.int k) => some (.v (.int k (k.wrap n))) | _ => none)
  | .v (.string s) => (match P.underlying dst with | some .string => some (.v (.string s)) | _ => none)
  | _ => none

def placesL (P : Program) : List Field → Option (List (Nat × Nat))
  | [] => some []
  | f :: r => match sizeT P f.type, placesL P r with
    | some n, some ps => some ((f.offset, n) :: ps)
    | _, _ => none

def pickOp (st : St) (c : List (Nat × Bool)) (co a b : Operand) : Option SV :=
  match ev st c co with
  | some (.b true) => ev st c a
  | some (.b false) => ev st c b
  | some (.v (.bool g)) =>
    let ca := match co with | .tmp s => (s, true) :: c | _ => c
    let cb := match co with | .tmp s => (s, false) :: c | _ => c
    (match ev st ca a, ev st cb b with
      | some x, some y => pickV g x y
      | _, _ => none)
  | _ => none

def unPure (u : UnOp) (x : SV) : Option SV :=
  match u with
  | .not => notB x
  | .neg => (match x with | .v (.int k n) => some (.v (.int k (k.wrap (0 - n)))) | _ => none)
  | .xor => (match x with | .v (.int k n) => some (.v (.int k (bits .xor k (if k.signed then -1 else k.max) n))) | _ => none)
  | .plus => none

def builtinPure (P : Program) (b : Builtin) (xs : List SV) (ts : List TypeId) : Option SV :=
  match b with
  | .len => (match xs, ts with | [x], [t] => lenPure P t x | _, _ => none)
  | .cap => (match xs, ts with
    | [.v (.slice _ _ n)], [t] => (match P.underlying t with | some (.slice _) => some (.v (.int .i64 (n : Int))) | _ => none)
    | _, _ => none)
  | .min => (match xs with | [.v (.int k a), .v (.int _ b)] => some (.v (.int k (mmI false a b))) | _ => none)
  | .max => (match xs with | [.v (.int k a), .v (.int _ b)] => some (.v (.int k (mmI true a b))) | _ => none)
  | _ => none

def pureOp (P : Program) (st : St) (c : List (Nat × Bool)) (op : Op) : Option SV :=
  match op with
  | .move x => ev st c x
  | .assign x => ev st c x
  | .pick co a b => pickOp st c co a b
  | .binOp o t x y _ => (match ev st c x, ev st c y with
    | some a, some b => (match binPure o y a b with
      | some r => some r
      | none => eqPure (P.underlying t) o a b)
    | _, _ => none)
  | .unOp u _ x => (match ev st c x with | some a => unPure u a | none => none)
  | .convert src dst x => (match P.underlying src, ev st c x with | some _, some a => convPure P dst a | _, _ => none)
  | .extract t i => (match ev st c t with
    | some (.v (.tuple vs)) => (match nthV vs.toList i with
      | some (.bool b) => some (.v (.bool b))
      | some v => some (.v v)
      | none => none)
    | _ => none)
  | .field s x f => (match fieldAt? P s f, ev st c x with
    | some (o, t), some (.v (.agg cs)) => partL P t cs.toList o
    | _, _ => none)
  | .fieldAddr s x f => (match fieldAt? P s f, ev st c x with
    | some (o, t), some (.loc b a) => (match sizeT P t with
      | some (_ + 1) => some (.loc b (off a o))
      | _ => none)
    | _, _ => none)
  | .makeFunc fn a b => (match evs st c a.toList, evs st c b.toList with
    | some x, some y => some (.v (.func fn (dens x).toArray (dens y).toArray))
    | _, _ => none)
  | .nilCheck x => (match ev st c x with
    | some (.loc b o) => some (.loc b o)
    | some (.v (.func (.func f) a b)) => some (.v (.func (.func f) a b))
    | some (.v (.func (.yield l) a b)) => some (.v (.func (.yield l) a b))
    | _ => none)
  | .call cl => (match cl.callee, evs st c cl.args.toList with | .builtin b, some xs => builtinPure P b xs cl.argTypes.toList | _, _ => none)
  | .build t ps => (match tyOf P t, evParts st c ps.toList, P.underlying t with
    | some ty, some xs, some (.struct fs) => (match placesL P fs.toList with
      | some ps => (match Instr.fill (fun i => ps[i]?) ty.zero.cells xs with
        | some cs => some (.v (.agg cs))
        | none => none)
      | none => none)
    | some ty, some xs, some (.array _ e) => (match sizeT P e with
      | some n => (match Instr.fill (fun i => some (i * n, n)) ty.zero.cells xs with
        | some cs => some (.v (.agg cs))
        | none => none)
      | none => none)
    | _, _, _ => none)
  | _ => none

/-! ### Operations that read, write, or may fail -/
def isZ : Option Operand → Bool
  | none => true
  | _ => false

def valOp (P : Program) (st : St) (o : Oper) (w : World) (F : SV → World → Prop) : Prop :=
  match pureOp P st [] o.op with
  | some x => F x w
  | none => match o.op with
    | .alloc t => (match tyOf P t with
      | some ty => F (.loc w.heap.size 0) (w.alloc (.cells ty.zero.cells t))
      | none => False)
    | .box t x => (match ev st [] x with
      | some a => F (.loc w.heap.size 0) (w.alloc (.cells a.den.cells t))
      | none => False)
    | .load t x => (match ev st [] x, tyOf P t with
      | some a, some ty => asPtr a fun b o => loadL ty.ls b o 0 w fun vs => match ofCells ty.agg vs with | some r => F r w | none => False
      | _, _ => False)
    | .store t x y => (match ev st [] x, ev st [] y, sizeT P t with
      | some a, some v, some n => (match Nat.beq n v.den.cells.toList.length with
        | true => asPtr a fun b o => storeL v.den.cells.toList b o 0 w fun w' => F (.v undef) w'
        | false => False)
      | _, _, _ => False)
    | .nilCheck x => (match ev st [] x with
      | some (.v (.pointer p)) => ∃ b o, p = some ⟨b, o, none⟩ ∧ F (.loc b o) w
      | _ => False)
    | .fieldAddr s x f => (match fieldAt? P s f, ev st [] x with
      | some (k, t), some a => (match sizeT P t with
        | some (_ + 1) => asPtr a fun b o => F (.loc b (off o k)) w
        | _ => False)
      | _, _ => False)
    | .indexAddr t x i => (match ev st [] x, ev st [] i, P.underlying t with
      | some (.v (.slice p n _)), some (.v (.int _ k)), some (.slice e) => (match sizeT P e with
        | some s => ∃ b o, p = some ⟨b, o, none⟩ ∧ 0 ≤ k ∧ k < (n : Int) ∧ F (.loc b (o + scale k.toNat s)) w
        | none => False)
      | some a, some (.v (.int _ k)), some (.array n e) => (match sizeT P e with
        | some s => asPtr a fun b o => 0 ≤ k ∧ k < (n : Int) ∧ F (.loc b (o + scale k.toNat s)) w
        | none => False)
      | _, _, _ => False)
    | .index t x i => (match ev st [] x, ev st [] i, P.underlying t with
      | some (.v (.string s)), some (.v (.int _ k)), some .string => 0 ≤ k ∧ k < (s.size : Int) ∧ F (.v (.int .u8 (bAt s k.toNat))) w
      | _, _, _ => False)
    | .slice t x lo hi mx => (match ev st [] x, P.underlying t with
      | some (.v (.string s)), some .string => (match mx with
        | some _ => False
        | none => (match (match lo with | none => some (SV.v (.int .i64 0)) | some l => ev st [] l), (match hi with | none => some (SV.v (.int .i64 (s.size : Int))) | some h => ev st [] h) with
          | some (.v (.int _ l)), some (.v (.int _ h)) => 0 ≤ l ∧ l ≤ h ∧ h ≤ (s.size : Int) ∧ F (.v (.string (s.extract l.toNat h.toNat))) w
          | _, _ => False))
      | some (.v (.slice p n c)), some (.slice e) => (match sizeT P e,
          (match lo with | none => some (SV.v (.int .i64 0)) | some l => ev st [] l),
          (match hi with | none => some (SV.v (.int .i64 (n : Int))) | some h => ev st [] h),
          (match mx with | none => some (SV.v (.int .i64 (c : Int))) | some m => ev st [] m) with
        | some sz, some (.v (.int _ l)), some (.v (.int _ h)), some (.v (.int _ m)) => (match isZ hi, isZ mx with
          | true, false => False
          | _, _ => 0 ≤ l ∧ l ≤ h ∧ h ≤ m ∧ m ≤ (c : Int) ∧ F (.v (.slice (match isZ lo with | true => p | false => slBase p l.toNat m.toNat sz) (h.toNat - l.toNat) (m.toNat - l.toNat))) w)
        | _, _, _, _ => False)
      | some a, some (.array n e) => (match sizeT P e,
          (match lo with | none => some (SV.v (.int .i64 0)) | some l => ev st [] l),
          (match hi with | none => some (SV.v (.int .i64 (n : Int))) | some h => ev st [] h), mx with
        | some sz, some (.v (.int _ l)), some (.v (.int _ h)), none =>
          asPtr a fun b o => 0 ≤ l ∧ l ≤ h ∧ h ≤ (n : Int) ∧ F (.v (.slice (match isZ lo with | true => some ⟨b, o, none⟩ | false => slBase (some ⟨b, o, none⟩) l.toNat n sz) (h.toNat - l.toNat) (n - l.toNat))) w
        | _, _, _, _ => False)
      | _, _ => False)
    | .makeSlice t x y => (match ev st [] x, ev st [] y, P.underlying t with
      | some (.v (.int _ l)), some (.v (.int _ c)), some (.slice e) => (match tyOf P e with
        | some ty => 0 ≤ l ∧ l ≤ c ∧ (ty.bytes : Int) * c ≤ 281474976710656 ∧ c ≤ 9223372036854775807 ∧
            F (.v (.slice (some ⟨w.heap.size, 0, none⟩) l.toNat c.toNat)) (w.alloc (.cells (madeCells ty.zero.cells (c.toNat * ty.ls.length)) e))
        | none => False)
      | _, _, _ => False)
    | .buildSlice t n ps => (match P.underlying t, evParts st [] ps.toList with
      | some (.slice e), some xs => (match tyOf P e with
        | some ty => (match Nat.ble (n * ty.ls.length) 1000, Instr.fill (fun i => some (i * ty.ls.length, ty.ls.length)) (madeCells ty.zero.cells (n * ty.ls.length)) xs with
          | true, some cs => F (.v (.slice (some ⟨w.heap.size, 0, none⟩) n n)) (w.alloc (.cells cs e))
          | _, _ => False)
        | none => False)
      | _, _ => False)
    | .binOp op t x y _ => (match ev st [] x, ev st [] y with
      | some (.v (.int k a)), some (.v (.int k' b)) => (match op with
        | .shl => 0 ≤ b ∧ F (.v (.int k (shlI k a b.toNat))) w
        | .shr => 0 ≤ b ∧ F (.v (.int k (shrI k a b.toNat))) w
        | .quo => (match Nat.beq (kid k) (kid k') with | true => b ≠ 0 ∧ F (.v (.int k (quoI k a b))) w | false => False)
        | .rem => (match Nat.beq (kid k) (kid k') with | true => b ≠ 0 ∧ F (.v (.int k (remI a b))) w | false => False)
        | _ => False)
      | some (.v (.string a)), some (.v (.string b)) => (match op with
        | .add => a.size + b.size ≤ 9223372036854775807 ∧ F (.v (.string (a ++ b))) w
        | _ => False)
      | some a, some b => ∃ r : Bool, (∀ w1 : World, (do eqGuard op t x y a.den b.den; binOp op t a.den b.den : Sem Value).run P w1 = .ok (.bool r) w1) ∧ F (.v (.bool r)) w
      | _, _ => False)
    | .convert src dst x => (match P.underlying src, P.underlying dst, ev st [] x with
      | some (.slice e), some .string, some (.v (.slice p n _)) => (match P.underlying e with
        | some (.int .u8) => ∃ l : List UInt8, BytesAt w p n l ∧ F (.v (.string ⟨l.toArray⟩)) w
        | _ => False)
      | some .string, some (.slice e), some (.v (.string s)) => (match P.underlying e with
        | some (.int .u8) => ∀ c, s.size ≤ c → F (.v (.slice (some ⟨w.heap.size, 0, none⟩) s.size c)) (w.drew.alloc (.cells (bytesRow s c) e ((bytesRow s c).size, (bytesRow s c).size + 1)))
        | _ => False)
      | some (.slice _), some (.slice e), some (.v (.slice p n c)) => (match P.underlying e, Nat.beq src dst with
        | some (.int .u8), true => ∃ b o cs t fr, p = some ⟨b, o, none⟩ ∧ w.heap[b]? = some (.cells cs t fr) ∧ F (.v (.slice p n c)) (w.freeze ⟨b, cs.size, none⟩ 1)
        | _, _ => False)
      | _, _, _ => False)
    | .makeMap t none => F (.v (.map (some w.heap.size))) (w.alloc (.map #[] 0))
    | .lookup t x i ok => (match ev st [] x, ev st [] i, P.underlying t with
      | some a, some k, some (.map _ e) => (match tyOf P e, ok with
        | some ty, false => ExT ty fun r => (Instr.lookup t a.den k.den false).run P w = .ok r.den w ∧ F r w
        | some ty, true => ExT ty fun r => ∃ b : Bool, (Instr.lookup t a.den k.den true).run P w = .ok (.tuple #[r.den, .bool b]) w ∧ F (.v (.tuple #[r.den, .bool b])) w
        | _, _ => False)
      | _, _, _ => False)
    | .mapUpdate t m k x => (match ev st [] m, ev st [] k, ev st [] x with
      | some a, some b, some y => ∃ w', (Instr.mapUpdate t a.den b.den y.den).run P w = .ok () w' ∧ F (.v undef) w'
      | _, _, _ => False)
    | .call cl => (match cl.callee, evs st [] cl.args.toList, cl.argTypes.toList with
      | .builtin .append, some [a, b], [t, u] => ∃ (p : Option Addr) (n c : Nat) (w' : World), (Builtin.append_ #[t, u] o.type #[a.den, b.den]).run P w = .ok (.slice p n c) w' ∧ F (.v (.slice p n c)) w'
      | .builtin .copy, some [a, b], [t, u] => ∃ (n : Int) (w' : World), (Builtin.copy_ #[t, u] o.type #[a.den, b.den]).run P w = .ok (.int .i64 n) w' ∧ F (.v (.int .i64 n)) w'
      | _, _, _ => False)
    | _ => False

/-- A yield, in whatever fence. -/
def Yield (P : Program) (l : Nat) (args : Array Value) (w : World) (R : Bool → World → Prop) : Prop :=
  ∀ rd, YieldAt (FW rd) 0 P l args w fun e w' => ∃ b : Bool, e = .returned (.bool b) ∧ R b w'

def isCall : Op → Bool
  | .call cl => (match cl.callee with | .value _ => true | _ => false)
  | _ => false

/-- An operation, a call of a Go function among them. -/
def oneOp (P : Program) (st : St) (o : Oper) (w : World) (F : SV → World → Prop) : Prop :=
  match o.op with
  | .call cl => (match cl.callee with
    | .value f => (match ev st [] f, evs st [] cl.args.toList with
      | some (.v (.func (.func g) first cap)), some xs => (match enterable P g, resTys P g with
        | true, some ts => Calls P g (first.toList ++ (dens xs ++ cap.toList)).toArray w fun e w' => ExTs ts fun rs => e = .returned (ofResults rs).den ∧ F (ofResults rs) w'
        | _, _ => False)
      | some (.v (.func (.yield l) first _)), some xs => Yield P l (first.toList ++ dens xs).toArray w fun b w' => F (.v (.bool b)) w'
      | _, _ => False)
    | _ => valOp P st o w F)
  | _ => valOp P st o w F

/-! ### A region -/
def gdst (ops : List Oper) (j : Nat) : Option Nat :=
  match ops, j with
  | [], _ => none
  | o :: _, 0 => o.dst
  | _ :: r, j + 1 => gdst r j

inductive GV where
  | yes
  | no
  | split (s : Nat) (g : Bool)
  | bad

/-- Does the guard 'temporary s holds t' hold? -/
def guardV (st : St) (s : Nat) (t : Bool) : GV :=
  match lkE st.e s with
  | some (.b u) => (match bq u t with | true => .yes | false => .no)
  | some (.v (.bool g)) => .split s g
  | some (.v (.tuple _)) => .no
  | some _ => .bad
  | none => match lkG st.ge s with
    | none => .bad
    | some d => match lkE st.e d.s with
      | some (.v (.bool g)) => .split d.s g
      | some (.b u) => (match bq u d.t with
        | false => .no
        | true => match d.x with
          | .b u' => (match bq u' t with | true => .yes | false => .no)
          | .v (.bool g) => .split s g
          | _ => .bad)
      | _ => .bad

def skipO (st : St) (o : Oper) : St := put st o.dst (.v undef)

def refine' (st : St) (s : Nat) (u : Bool) : St := { st with e := (s, some (.b u)) :: st.e }

def vcOps (P : Program) (N : Nat) (all : List Oper) : List Oper → (St → World → Prop) → St → World → Prop
  | [], K, st, w => K { st with ge := [] } w
  | o :: rest, K, st, w =>
    match okDst N st o.dst with
    | false => False
    | true => match o.guard with
      | none => oneOp P st o w fun x w' => vcOps P N all rest K (put st o.dst x) w'
      | some (j, t) => match gdst all j with
        | none => False
        | some s => match guardV st s t with
          | .yes => oneOp P st o w fun x w' => vcOps P N all rest K (put st o.dst x) w'
          | .no => vcOps P N all rest K (skipO st o) w
          | .bad => False
          | .split s' g => match o.dst, Nat.beq s s', pureOp P st [(s, t)] o.op with
            | some d, true, some x => (match Nat.beq s d with
              | true => False
              | false => vcOps P N all rest K (putG st d s t x) w)
            | _, _, _ =>
              (g = true → (match guardV (refine' st s' true) s t with
                | .yes => oneOp P (refine' st s' true) o w fun x w' => vcOps P N all rest K (put (refine' st s' true) o.dst x) w'
                | .no => vcOps P N all rest K (skipO (refine' st s' true) o) w
                | _ => False)) ∧
              (g = false → (match guardV (refine' st s' false) s t with
                | .yes => oneOp P (refine' st s' false) o w fun x w' => vcOps P N all rest K (put (refine' st s' false) o.dst x) w'
                | .no => vcOps P N all rest K (skipO (refine' st s' false) o) w
                | _ => False))

/-! ### A region that draws its order -/
def lenOp : Builtin → Bool
  | .len => true | .cap => true | .min => true | .max => true | _ => false

/-- An operation that leaves the world as it is. -/
def quietOp (P : Program) : Op → Bool
  | .move _ | .assign _ | .pick .. | .load .. | .nilCheck _ | .binOp .. | .unOp .. | .extract .. | .field .. | .fieldAddr .. | .indexAddr .. | .index .. | .slice .. | .makeFunc .. | .build .. | .lookup .. => true
  | .convert src dst _ => (match P.underlying src, P.underlying dst with | some .string, some (.slice _) => false | some (.slice _), some (.slice _) => false | _, _ => true)
  | .call cl => (match cl.callee with | .builtin b => lenOp b | _ => false)
  | _ => false

def quietLen (P : Program) : List Oper → Nat
  | [] => 0
  | o :: r => match quietOp P o.op with
    | true => quietLen P r + 1
    | false => 0

def memN : List Nat → Nat → Bool
  | [], _ => false
  | j :: r, i => match Nat.beq j i with | true => true | false => memN r i

/-- What an operation waits for, whatever the mode. -/
def preds (o : Oper) : List Nat := (o.after.toList.filter (Region.binds .any)).map (·.on)

def tmpsOf : List Operand → List Nat
  | [] => []
  | .tmp t :: r => t :: tmpsOf r
  | _ :: r => tmpsOf r

def looks (all : List Oper) (o : Oper) : List Nat :=
  tmpsOf o.op.operands.toList ++ (match o.guard with | some (j, _) => (match gdst all j with | some s => [s] | none => []) | none => [])

def noDup : List Nat → Bool
  | [] => true
  | i :: r => match memN r i with | true => false | false => noDup r

def dstsOf : List Oper → List Nat
  | [] => []
  | o :: r => match o.dst with | some d => d :: dstsOf r | none => dstsOf r

/-- Each temporary of t that an operation among 'os' (the first is number k) writes is among those that are waited for. -/
def waitsFor (ps : List Nat) (t : Nat) : List Oper → Nat → Bool
  | [], _ => true
  | o :: r, k => match (match o.dst with | some d => Nat.beq d t | none => false) with
    | true => (match memN ps k with | true => waitsFor ps t r (k + 1) | false => false)
    | false => waitsFor ps t r (k + 1)

def allB {α : Type} (p : α → Bool) : List α → Bool
  | [] => true
  | x :: r => match p x with | true => allB p r | false => false

def ssaHead (all head : List Oper) : List Oper → Bool
  | [] => true
  | o :: r => match allB (fun t => waitsFor (preds o) t head 0) (looks all o) with
    | true => ssaHead all head r
    | false => false

def backB : List Oper → Nat → Bool
  | [], _ => true
  | o :: r, k => match allB (fun i => Nat.blt i k) (preds o) with
    | true => backB r (k + 1)
    | false => false

/-- Somebody behind i, up to n, waits for i. -/
def waited (i n : Nat) : List Oper → Nat → Bool
  | [], _ => false
  | o :: r, k => match Nat.ble k n, memN (preds o) i with
    | true, true => true
    | _, _ => waited i n r (k + 1)

def chainB (n : Nat) : List Oper → Nat → Bool
  | [], _ => true
  | o :: r, k => match Nat.ble k n with
    | true => chainB n r (k + 1)
    | false => match memN (preds o) (k - 1) with
      | true => chainB n r (k + 1)
      | false => false

def drawAt (P : Program) (N : Nat) (ops : List Oper) (n : Nat) : Bool :=
  match allB (fun o => quietOp P o.op) (ops.take n), (match allB (fun d => Nat.blt d N) (dstsOf (ops.take n)) with | true => noDup (dstsOf (ops.take n)) | false => false), ssaHead ops (ops.take n) (ops.take n), backB ops 0, chainB n ops 0 with
  | true, true, true, true, true => (match Nat.beq n ops.length with
    | true => true
    | false => allB (fun i => waited i n ops 0) (List.range n))
  | _, _, _, _, _ => false

def drawOk (P : Program) (N : Nat) (ops : List Oper) : Bool := drawAt P N ops (quietLen P ops)

def vcRegion (P : Program) (N : Nat) (ops : List Oper) (draw : Bool) (K : St → World → Prop) (st : St) (w : World) : Prop :=
  match draw with
  | false => vcOps P N ops ops K st w
  | true => match drawOk P N ops with
    | true => vcOps P N ops ops K st w.drew
    | false => False

/-! ### Code -/
def wrOps : List Oper → List (Nat × TypeId)
  | [] => []
  | o :: r => match o.dst with
    | some d => (d, o.type) :: wrOps r
    | none => wrOps r

def joinW : Option (List (Nat × TypeId)) → Option (List (Nat × TypeId)) → Option (List (Nat × TypeId))
  | some x, some y => some (x ++ y)
  | some x, none => some x
  | none, y => y

def isN : Option Nat → Bool
  | none => true
  | _ => false

def oBeq : Option Nat → Option Nat → Bool
  | none, none => true
  | some a, some b => Nat.beq a b
  | _, _ => false

/-- The temporaries written on the ways that end as t says (none: off the end; some id: by 'exit id'); none: there is no such way. -/
def wr (t : Option Nat) : Code → Option (List (Nat × TypeId))
  | .skip => (match isN t with | true => some [] | false => none)
  | .label _ => (match isN t with | true => some [] | false => none)
  | .region _ ops _ => (match isN t with | true => some (wrOps ops.toList) | false => none)
  | .seq a b => (match wr none a with
    | some x => (match isN t with
      | true => (match wr t b with | some y => some (x ++ y) | none => none)
      | false => joinW (match wr t b with | some y => some (x ++ y) | none => none) (wr t a))
    | none => (match isN t with | true => none | false => wr t a))
  | .cond _ a b => joinW (wr t a) (wr t b)
  | .block id b => (match isN t with
    | true => joinW (wr none b) (wr (some id) b)
    | false => (match oBeq t (some id) with | true => none | false => wr t b))
  | .loop b => (match isN t with
    | true => none
    | false => (match wr t b with
      | some y => (match wr none b with | some x => some (x ++ y) | none => some y)
      | none => none))
  | .exit id => (match oBeq t (some id) with | true => some [] | false => none)
  | .scope b => wr t b
  | .rangeFunc _ _ _ _ => some []
  | _ => none

def inW : List (Nat × TypeId) → Nat → Bool
  | [], _ => false
  | p :: r, i => match Nat.beq p.1 i with | true => true | false => inW r i

def inS : List (Nat × Ty) → Nat → Bool
  | [], _ => false
  | p :: r, i => match Nat.beq p.1 i with | true => true | false => inS r i

/-- The written temporaries that are known already: what a loop hands on from round to round. -/
def carry (P : Program) (st : St) : List (Nat × TypeId) → Option (List (Nat × Ty))
  | [] => some []
  | p :: r => match carry P st r with
    | none => none
    | some acc => match inS acc p.1, lkE st.e p.1 with
      | true, _ => some acc
      | false, none => some acc
      | false, some _ => match tyOf P p.2 with
        | some ty => some ((p.1, ty) :: acc)
        | none => none

def lsOf : List (Nat × Ty) → List Leaf
  | [] => []
  | p :: r => p.2.ls ++ lsOf r

def cellsAs (agg : Bool) (x : Value) : Option (List Value) :=
  match agg, x with
  | true, .agg cs => some cs.toList
  | true, _ => none
  | false, .agg _ => none
  | false, v => some [v]

def slotVals (st : St) : List (Nat × Ty) → Option (List Value)
  | [] => some []
  | p :: r => match lkE st.e p.1, slotVals st r with
    | some x, some vs => (match cellsAs p.2.agg x.den with
      | some cs => (match Nat.beq cs.length p.2.ls.length with
        | true => some (cs ++ vs)
        | false => none)
      | none => none)
    | _, _ => none

def setSlots : List (Nat × Ty) → List Value → Option (List (Nat × Option SV))
  | [], _ => some []
  | p :: r, vs => match ofCells p.2.agg (vs.take p.2.ls.length), setSlots r (vs.drop p.2.ls.length) with
    | some x, some es => some ((p.1, some x) :: es)
    | _, _ => none

def blank : List (Nat × TypeId) → List (Nat × Option SV)
  | [] => []
  | p :: r => (p.1, none) :: blank r

def headSt (st : St) (ws : List (Nat × TypeId)) (slots : List (Nat × Ty)) (vs : List Value) : Option St :=
  match setSlots slots vs with
  | some es => some { e := es ++ (blank ws ++ st.e), ge := [], ds := st.ds }
  | none => none

/-- The number of the first region of a code. -/
def firstR : Code → Option Nat
  | .region id _ _ => some id
  | .seq a b => (match firstR a with | some i => some i | none => firstR b)
  | .block _ b => firstR b
  | .loop b => firstR b
  | .scope b => firstR b
  | _ => none

def cutHere (cuts : List Nat) (c : Code) : Bool := match firstR c with | some i => memN cuts i | none => false

def nth? {α : Type} : List α → Nat → Option α
  | [], _ => none
  | x :: _, 0 => some x
  | _ :: r, i + 1 => nth? r i

/-- Of the written temporaries those that bear a name. -/
def named (P : Program) (nm : List Bool) : List (Nat × TypeId) → Option (List (Nat × Ty))
  | [] => some []
  | p :: r => match named P nm r with
    | none => none
    | some acc => match inS acc p.1, nth? nm p.1 with
      | false, some true => (match tyOf P p.2 with
        | some ty => some ((p.1, ty) :: acc)
        | none => none)
      | _, _ => some acc

structure Cfg where
  N : Nat
  cuts : List Nat
  nm : List Bool
  rd : Option Nat

def vc (P : Program) : Cfg → Code → (Exit → St → World → Prop) → St → World → Prop
  | C, .skip, Q, st, w => Q .normal st w
  | C, .label _, Q, st, w => Q .normal st w
  | C, .exit id, Q, st, w => Q (.exit id) st w
  | C, .ret, Q, st, w => Q .ret st w
  | C, .region _ ops draw, Q, st, w => vcRegion P C.N ops.toList draw (fun st' w' => Q .normal st' w') st w
  | C, .cond c a b, Q, st, w => (match ev st [] c with
    | some (.b true) => vc P C a Q st w
    | some (.b false) => vc P C b Q st w
    | some (.v (.bool g)) => (g = true → vc P C a Q st w) ∧ (g = false → vc P C b Q st w)
    | _ => False)
  | C, .block id b, Q, st, w => vc P C b (fun ex st' w' => match ex with
    | .exit j => (match Nat.beq j id with | true => Q .normal st' w' | false => Q (.exit j) st' w')
    | e => Q e st' w') st w
  | C, .scope b, Q, st, w => vc P C b (fun ex st' w' => match ex with
    | .goto _ => False
    | e => Q e st' w') st w
  | C, .seq a b, Q, st, w => (match cutHere C.cuts b with
    | false => vc P C a (fun ex st' w' => match ex with
      | .normal => vc P C b Q st' w'
      | e => Q e st' w') st w
    | true => (match wr none a with
      | none => vc P C a (fun ex st' w' => match ex with
        | .normal => False
        | e => Q e st' w') st w
      | some ws => (match named P C.nm ws with
        | none => False
        | some slots => ∃ J : Tel (World → Prop) (lsOf slots),
          vc P C a (fun ex st' w' => match ex with
            | .normal => (match slotVals st' slots with | some vs => atI J vs w' | none => False)
            | e => Q e st' w') st w ∧
          AllL (lsOf slots) fun vs => ∀ w' : World, atI J vs w' → (match headSt st ws slots vs with
            | some st1 => vc P C b Q st1 w'
            | none => False))))
  | C, .loop b, Q, st, w => (match wr none b with
    | none => vc P C b (fun ex st' w' => match ex with
      | .normal => False
      | e => Q e st' w') st w
    | some ws => (match carry P st ws with
      | none => False
      | some slots => (match slotVals st slots with
        | none => False
        | some vs0 => ∃ (I : Tel (World → Prop) (lsOf slots)) (M : Tel (World → Nat) (lsOf slots)), atI I vs0 w ∧
          AllL (lsOf slots) fun vs => ∀ w' : World, atI I vs w' → (match headSt st ws slots vs with
            | none => False
            | some st1 => vc P C b (fun ex st' w'' => match ex with
              | .normal => (match slotVals st' slots with
                | some vs' => atI I vs' w'' ∧ atN M vs' w'' < atN M vs w'
                | none => False)
              | e => Q e st' w'') st1 w'))))
  | _, _, _, _, _ => False

/-! ### A function -/
def resVC (P : Program) (st : St) (w : World) : List ResultVar → (List SV → Prop) → Prop
  | [], F => F []
  | .tmp t :: r, F => (match lkE st.e t with
    | some x => resVC P st w r fun xs => F (x :: xs)
    | none => False)
  | .cell d t :: r, F => (match lkE st.e d, tyOf P t with
    | some a, some ty => asPtr a fun b o => loadL ty.ls b o 0 w fun vs => match ofCells ty.agg vs with
      | some x => resVC P st w r fun xs => F (x :: xs)
      | none => False
    | _, _ => False)

/-- The blocks for the rounds' deferred calls are taken, one behind the other. -/
def unD : List Nat → World → (World → Prop) → Prop
  | [], w, F => F w
  | d :: r, w, F => w.heap[d]? = some (.deferred (some [])) ∧ unD r (w.putObj d (.deferred none)) F

def retQ (P : Program) (fn : Func) (R : Ending → World → Prop) : Exit → St → World → Prop
  | .normal, st, w => unD st.ds w fun w' => resVC P st w' fn.results.toList fun xs => R (.returned (ofResults xs).den) w'
  | .ret, st, w => unD st.ds w fun w' => resVC P st w' fn.results.toList fun xs => R (.returned (ofResults xs).den) w'
  | _, _, _ => False

def initE : List Value → Nat → List (Nat × Option SV)
  | [], _ => []
  | v :: r, i => (i, some (ofConst' v)) :: initE r (i + 1)
where ofConst' : Value → SV
  | .bool b => .v (.bool b)
  | v => .v v

def namesB : List String → List Bool
  | [] => []
  | s :: r => (match s.toList with | [] => false | _ => true) :: namesB r

def cfgOf (cuts : List Nat) (fn : Func) : Cfg := { N := fn.ntmps, cuts := cuts, nm := namesB fn.tmpNames.toList, rd := none }

/-- The verification condition of a call of fn. -/
def vcFn (P : Program) (cuts : List Nat) (fn : Func) (args : List Value) (w : World) (R : Ending → World → Prop) : Prop :=
  match fn.body with
  | none => False
  | some c => match Nat.ble args.length fn.ntmps with
    | true => vc P (cfgOf cuts fn) c (retQ P fn R) { e := initE args 0, ge := [], ds := [] } w
    | false => False

end Go.Vc
