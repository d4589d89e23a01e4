/- The verification conditions of the functions, evaluated: printed by program. -/
import Derived.Test.YtdephmdfdgclpaaDoorBase
import Derived.Test.YtdephmdfdgclpaaDoorVcF
namespace Go.Proofs.YtdephmdfdgclpaaDoor
open Go Go.Vc

set_option maxRecDepth 100000 in
def sisname_T (s : ByteArray) (w : World) (R : Ending → World → Prop) : Prop :=
  (s ≠ ByteArray.mk #[] ∧ (↑s.size : Int) ≤ 24 →
 (0 : Int) ≤ 0 ∧
 0 < (↑s.size : Int) ∧
 Calls Tryd.prog 60
 #[Value.string (ByteArray.mk #[97, 98, 99, 100, 101, 102, 103, 104, 105, 106, 107, 108, 109, 110, 111, 112, 113, 114, 115, 116, 117, 118, 119, 120, 121, 122]),
 Value.int IntKind.u8 (bAt s 0)]
 w fun (e2 : Ending) (w3 : World) ↦
 ∃ (n4 : Int),
 e2 = Ending.returned (Value.int IntKind.i64 n4) ∧
 (0 ≤ n4 →
 Calls Tryd.prog 61
 #[Value.string s,
 Value.string
 (ByteArray.mk
 #[97, 98, 99, 100, 101, 102, 103, 104, 105, 106, 107, 108, 109, 110, 111, 112, 113, 114, 115, 116, 117, 118, 119, 120, 121, 122, 48, 49, 50, 51, 52, 53, 54, 55, 56, 57,
 95])]
 w3 fun (e6 : Ending) (w7 : World) ↦ ∃ (s8 : ByteArray), e6 = Ending.returned (Value.string s8) ∧ R (Ending.returned (Value.bool (sEq s8 (ByteArray.mk #[])))) w7) ∧
 (n4 < 0 → R (Ending.returned (Value.bool false)) w3)) ∧
 (s = ByteArray.mk #[] ∨ 24 < (↑s.size : Int) → R (Ending.returned (Value.bool false)) w)

set_option maxRecDepth 100000 in
theorem sisname_eq (s : ByteArray) (w : World) (R : Ending → World → Prop) : sisname_T s w R = vcFn Tryd.prog [] [] Tryd.f42 [Value.string s] w R := by kernel_rfl

set_option maxRecDepth 100000 in
theorem sisname_vc (s : ByteArray) (w : World) (R : Ending → World → Prop) (h : sisname_T s w R) : Calls Tryd.prog 42 #[Value.string s] w R :=
  calls_of_vc (args := [Value.string s]) [] [] Tryd.mixed Tryd.func42 (cast (sisname_eq _ w R) h)

set_option maxRecDepth 100000 in
def sidxb_T (s : ByteArray) (c : Int) (w : World) (R : Ending → World → Prop) : Prop :=
  Calls Tryd.prog 85 #[Value.string s, Value.int IntKind.u8 c] w fun (e1 : Ending) (w2 : World) ↦
 ∃ (n3 : Int), e1 = Ending.returned (Value.int IntKind.i64 n3) ∧ R (Ending.returned (Value.int IntKind.i64 n3)) w2

set_option maxRecDepth 100000 in
theorem sidxb_eq (s : ByteArray) (c : Int) (w : World) (R : Ending → World → Prop) : sidxb_T s c w R = vcFn Tryd.prog [] [] Tryd.f60 [Value.string s, Value.int IntKind.u8 c] w R := by kernel_rfl

set_option maxRecDepth 100000 in
theorem sidxb_vc (s : ByteArray) (c : Int) (w : World) (R : Ending → World → Prop) (h : sidxb_T s c w R) : Calls Tryd.prog 60 #[Value.string s, Value.int IntKind.u8 c] w R :=
  calls_of_vc (args := [Value.string s, Value.int IntKind.u8 c]) [] [] Tryd.mixed Tryd.func60 (cast (sidxb_eq _ _ w R) h)

set_option maxRecDepth 100000 in
def slidxb_T (s : ByteArray) (c : Int) (w : World) (R : Ending → World → Prop) : Prop :=
  ∃ (n1 : Int),
 ∃ (w'2 : World),
 Sem.run Tryd.prog (callFunc 106 #[Value.string s, Value.int IntKind.u8 c]) w = Result.ok (Next.value (Value.int IntKind.i64 n1)) w'2 ∧
 R (Ending.returned (Value.int IntKind.i64 n1)) w'2

set_option maxRecDepth 100000 in
theorem slidxb_eq (s : ByteArray) (c : Int) (w : World) (R : Ending → World → Prop) : slidxb_T s c w R = vcFn Tryd.prog [] [] Tryd.f85 [Value.string s, Value.int IntKind.u8 c] w R := by kernel_rfl

set_option maxRecDepth 100000 in
theorem slidxb_vc (s : ByteArray) (c : Int) (w : World) (R : Ending → World → Prop) (h : slidxb_T s c w R) : Calls Tryd.prog 85 #[Value.string s, Value.int IntKind.u8 c] w R :=
  calls_of_vc (args := [Value.string s, Value.int IntKind.u8 c]) [] [] Tryd.mixed Tryd.func85 (cast (slidxb_eq _ _ w R) h)

set_option maxRecDepth 100000 in
def strim_T (s : ByteArray) (cutset : ByteArray) (w : World) (R : Ending → World → Prop) : Prop :=
  (s = ByteArray.mk #[] ∨ cutset = ByteArray.mk #[] → R (Ending.returned (Value.string s)) w) ∧
 (s ≠ ByteArray.mk #[] ∧ cutset ≠ ByteArray.mk #[] →
 ((↑cutset.size : Int) = 1 →
 (0 : Int) ≤ 0 ∧
 0 < (↑cutset.size : Int) ∧
 (bAt cutset 0 < 128 →
 ∀ (w'5 : World),
 Drew w w'5 →
 (0 : Int) ≤ 0 ∧
 0 < (↑cutset.size : Int) ∧
 (0 : Int) ≤ 0 ∧
 0 < (↑cutset.size : Int) ∧
 Calls Tryd.prog 87 #[Value.string s, Value.int IntKind.u8 (bAt cutset 0)] w'5 fun (e7 : Ending) (w8 : World) ↦
 ∃ (s9 : ByteArray),
 e7 = Ending.returned (Value.string s9) ∧
 Calls Tryd.prog 86 #[Value.string s9, Value.int IntKind.u8 (bAt cutset 0)] w8 fun (e10 : Ending) (w11 : World) ↦
 ∃ (s12 : ByteArray), e10 = Ending.returned (Value.string s12) ∧ R (Ending.returned (Value.string s12)) w11) ∧
 (128 ≤ bAt cutset 0 →
 Calls Tryd.prog 88 #[Value.string cutset] w fun (e14 : Ending) (w15 : World) ↦
 ∃ (vs16 : Array Value),
 vs16.size = 256 ∧
 ∃ (b17 : Bool),
 e14 = Ending.returned (Value.tuple #[Value.agg vs16, Value.bool b17]) ∧
 ∀ (b18 : Nat) (w'19 : World),
 New w15 (Obj.cells (zeroA Tryd.prog 112) 112) b18 w'19 →
 vs16.size = 256 ∧
 CanPut w'19 b18 0 vs16 ∧
 ∀ (w'21 : World),
 Put w'19 b18 0 vs16.1 w'21 →
 (b17 = true →
 Calls Tryd.prog 90 #[Value.string s, Value.pointer (some (Addr.mk b18 0 none))] w'21 fun (e24 : Ending) (w25 : World) ↦
 ∃ (s26 : ByteArray),
 e24 = Ending.returned (Value.string s26) ∧
 Calls Tryd.prog 89 #[Value.string s26, Value.pointer (some (Addr.mk b18 0 none))] w25 fun (e27 : Ending) (w28 : World) ↦
 ∃ (s29 : ByteArray), e27 = Ending.returned (Value.string s29) ∧ R (Ending.returned (Value.string s29)) w28) ∧
 (b17 = false →
 Calls Tryd.prog 92 #[Value.string s, Value.string cutset] w'21 fun (e31 : Ending) (w32 : World) ↦
 ∃ (s33 : ByteArray),
 e31 = Ending.returned (Value.string s33) ∧
 Calls Tryd.prog 91 #[Value.string s33, Value.string cutset] w32 fun (e34 : Ending) (w35 : World) ↦
 ∃ (s36 : ByteArray), e34 = Ending.returned (Value.string s36) ∧ R (Ending.returned (Value.string s36)) w35))) ∧
 ((↑cutset.size : Int) ≠ 1 →
 Calls Tryd.prog 88 #[Value.string cutset] w fun (e38 : Ending) (w39 : World) ↦
 ∃ (vs40 : Array Value),
 vs40.size = 256 ∧
 ∃ (b41 : Bool),
 e38 = Ending.returned (Value.tuple #[Value.agg vs40, Value.bool b41]) ∧
 ∀ (b42 : Nat) (w'43 : World),
 New w39 (Obj.cells (zeroA Tryd.prog 112) 112) b42 w'43 →
 vs40.size = 256 ∧
 CanPut w'43 b42 0 vs40 ∧
 ∀ (w'45 : World),
 Put w'43 b42 0 vs40.1 w'45 →
 (b41 = true →
 Calls Tryd.prog 90 #[Value.string s, Value.pointer (some (Addr.mk b42 0 none))] w'45 fun (e48 : Ending) (w49 : World) ↦
 ∃ (s50 : ByteArray),
 e48 = Ending.returned (Value.string s50) ∧
 Calls Tryd.prog 89 #[Value.string s50, Value.pointer (some (Addr.mk b42 0 none))] w49 fun (e51 : Ending) (w52 : World) ↦
 ∃ (s53 : ByteArray), e51 = Ending.returned (Value.string s53) ∧ R (Ending.returned (Value.string s53)) w52) ∧
 (b41 = false →
 Calls Tryd.prog 92 #[Value.string s, Value.string cutset] w'45 fun (e55 : Ending) (w56 : World) ↦
 ∃ (s57 : ByteArray),
 e55 = Ending.returned (Value.string s57) ∧
 Calls Tryd.prog 91 #[Value.string s57, Value.string cutset] w56 fun (e58 : Ending) (w59 : World) ↦
 ∃ (s60 : ByteArray), e58 = Ending.returned (Value.string s60) ∧ R (Ending.returned (Value.string s60)) w59)))

set_option maxRecDepth 100000 in
theorem strim_eq (s : ByteArray) (cutset : ByteArray) (w : World) (R : Ending → World → Prop) : strim_T s cutset w R = vcFn Tryd.prog [] [(4, [2, 4, 6, 10, 12, 8, 14, 16, 0])] Tryd.f61 [Value.string s, Value.string cutset] w R := by kernel_rfl

set_option maxRecDepth 100000 in
theorem strim_vc (s : ByteArray) (cutset : ByteArray) (w : World) (R : Ending → World → Prop) (h : strim_T s cutset w R) : Calls Tryd.prog 61 #[Value.string s, Value.string cutset] w R :=
  calls_of_vc (args := [Value.string s, Value.string cutset]) [] [(4, [2, 4, 6, 10, 12, 8, 14, 16, 0])] Tryd.mixed Tryd.func61 (cast (strim_eq _ _ w R) h)

set_option maxRecDepth 100000 in
def mkascii_T (chars : ByteArray) (w : World) (R : Ending → World → Prop) : Prop :=
  ∀ (b1 : Nat) (w'2 : World),
 New w (Obj.cells (zeroA Tryd.prog 112) 112) b1 w'2 →
 ∃ (I4 : Int → World → Prop),
 ∃ (M5 : Int → World → Nat),
 I4 0 w'2 ∧
 ∀ (n6 : Int) (w'7 : World),
 I4 n6 w'7 →
 (n6 < (↑chars.size : Int) →
 0 ≤ n6 ∧
 n6 < (↑chars.size : Int) ∧
 (128 ≤ bAt chars n6.toNat →
 ∃ (vs11 : Array Value),
 vs11.size = 256 ∧
 CellsAt w'7 b1 0 vs11 ∧
 vs11.size = 256 ∧
 CanPut w'7 b1 0 vs11 ∧
 ∀ (w'12 : World),
 Put w'7 b1 0 vs11.1 w'12 →
 ∃ (vs14 : Array Value), vs14.size = 256 ∧ CellsAt w'12 b1 0 vs14 ∧ R (Ending.returned (Value.tuple #[Value.agg vs14, Value.bool false])) w'12) ∧
 (bAt chars n6.toNat < 128 →
 0 ≤ bAt chars n6.toNat ∧
 bAt chars n6.toNat < 256 ∧
 (∃ (u16 : Value), w'7.cell? (Addr.mk b1 (0 + (bAt chars n6.toNat).toNat) none) = some u16) ∧
 w'7.frozen? (Addr.mk b1 (0 + (bAt chars n6.toNat).toNat) none) = false ∧
 ∀ (w'17 : World),
 Put w'7 b1 (0 + (bAt chars n6.toNat).toNat) [Value.bool true] w'17 → I4 (IntKind.i64.wrap (n6 + 1)) w'17 ∧ M5 (IntKind.i64.wrap (n6 + 1)) w'17 < M5 n6 w'7)) ∧
 ((↑chars.size : Int) ≤ n6 →
 ∃ (vs20 : Array Value),
 vs20.size = 256 ∧
 CellsAt w'7 b1 0 vs20 ∧
 vs20.size = 256 ∧
 CanPut w'7 b1 0 vs20 ∧
 ∀ (w'21 : World),
 Put w'7 b1 0 vs20.1 w'21 → ∃ (vs23 : Array Value), vs23.size = 256 ∧ CellsAt w'21 b1 0 vs23 ∧ R (Ending.returned (Value.tuple #[Value.agg vs23, Value.bool true])) w'21)

set_option maxRecDepth 100000 in
theorem mkascii_eq (chars : ByteArray) (w : World) (R : Ending → World → Prop) : mkascii_T chars w R = vcFn Tryd.prog [] [] Tryd.f88 [Value.string chars] w R := by kernel_rfl

set_option maxRecDepth 100000 in
theorem mkascii_vc (chars : ByteArray) (w : World) (R : Ending → World → Prop) (h : mkascii_T chars w R) : Calls Tryd.prog 88 #[Value.string chars] w R :=
  calls_of_vc (args := [Value.string chars]) [] [] Tryd.mixed Tryd.func88 (cast (mkascii_eq _ w R) h)

set_option maxRecDepth 100000 in
def trimla_T (s : ByteArray) («as» : Option Addr) (w : World) (R : Ending → World → Prop) : Prop :=
  ∃ (I1 : ByteArray → World → Prop),
 ∃ (M2 : ByteArray → World → Nat),
 I1 s w ∧
 ∀ (s3 : ByteArray) (w'4 : World),
 I1 s3 w'4 →
 (0 < (↑s3.size : Int) →
 (0 : Int) ≤ 0 ∧
 0 < (↑s3.size : Int) ∧
 Calls Tryd.prog 107 #[Value.pointer «as», Value.int IntKind.u8 (bAt s3 0)] w'4 fun (e7 : Ending) (w8 : World) ↦
 ∃ (b9 : Bool),
 e7 = Ending.returned (Value.bool b9) ∧
 (b9 = false → R (Ending.returned (Value.string s3)) w8) ∧
 (b9 = true → (0 : Int) ≤ 1 ∧ 1 ≤ (↑s3.size : Int) ∧ I1 (s3.extract 1 s3.size) w8 ∧ M2 (s3.extract 1 s3.size) w8 < M2 s3 w'4)) ∧
 ((↑s3.size : Int) ≤ 0 → R (Ending.returned (Value.string s3)) w'4)

set_option maxRecDepth 100000 in
theorem trimla_eq (s : ByteArray) («as» : Option Addr) (w : World) (R : Ending → World → Prop) : trimla_T s «as» w R = vcFn Tryd.prog [] [] Tryd.f89 [Value.string s, Value.pointer «as»] w R := by kernel_rfl

set_option maxRecDepth 100000 in
theorem trimla_vc (s : ByteArray) («as» : Option Addr) (w : World) (R : Ending → World → Prop) (h : trimla_T s «as» w R) : Calls Tryd.prog 89 #[Value.string s, Value.pointer «as»] w R :=
  calls_of_vc (args := [Value.string s, Value.pointer «as»]) [] [] Tryd.mixed Tryd.func89 (cast (trimla_eq _ _ w R) h)

set_option maxRecDepth 100000 in
def trimra_T (s : ByteArray) («as» : Option Addr) (w : World) (R : Ending → World → Prop) : Prop :=
  ∃ (I1 : ByteArray → World → Prop),
 ∃ (M2 : ByteArray → World → Nat),
 I1 s w ∧
 ∀ (s3 : ByteArray) (w'4 : World),
 I1 s3 w'4 →
 (0 < (↑s3.size : Int) →
 0 ≤ IntKind.i64.wrap ((↑s3.size : Int) - 1) ∧
 IntKind.i64.wrap ((↑s3.size : Int) - 1) < (↑s3.size : Int) ∧
 Calls Tryd.prog 107 #[Value.pointer «as», Value.int IntKind.u8 (bAt s3 (IntKind.i64.wrap ((↑s3.size : Int) - 1)).toNat)] w'4 fun (e7 : Ending) (w8 : World) ↦
 ∃ (b9 : Bool),
 e7 = Ending.returned (Value.bool b9) ∧
 (b9 = false → R (Ending.returned (Value.string s3)) w8) ∧
 (b9 = true →
 0 ≤ IntKind.i64.wrap ((↑s3.size : Int) - 1) ∧
 IntKind.i64.wrap ((↑s3.size : Int) - 1) ≤ (↑s3.size : Int) ∧
 I1 (s3.extract 0 (IntKind.i64.wrap ((↑s3.size : Int) - 1)).toNat) w8 ∧ M2 (s3.extract 0 (IntKind.i64.wrap ((↑s3.size : Int) - 1)).toNat) w8 < M2 s3 w'4)) ∧
 ((↑s3.size : Int) ≤ 0 → R (Ending.returned (Value.string s3)) w'4)

set_option maxRecDepth 100000 in
theorem trimra_eq (s : ByteArray) («as» : Option Addr) (w : World) (R : Ending → World → Prop) : trimra_T s «as» w R = vcFn Tryd.prog [] [] Tryd.f90 [Value.string s, Value.pointer «as»] w R := by kernel_rfl

set_option maxRecDepth 100000 in
theorem trimra_vc (s : ByteArray) («as» : Option Addr) (w : World) (R : Ending → World → Prop) (h : trimra_T s «as» w R) : Calls Tryd.prog 90 #[Value.string s, Value.pointer «as»] w R :=
  calls_of_vc (args := [Value.string s, Value.pointer «as»]) [] [] Tryd.mixed Tryd.func90 (cast (trimra_eq _ _ w R) h)

set_option maxRecDepth 100000 in
def ascont_T («as» : Option Addr) (c : Int) (w : World) (R : Ending → World → Prop) : Prop :=
  ∃ (b1 : Nat),
 ∃ (o2 : Nat),
 «as» = some (Addr.mk b1 o2 none) ∧
 0 ≤ c ∧ c < 256 ∧ ∃ (b3 : Bool), w.cell? (Addr.mk b1 (o2 + c.toNat) none) = some (Value.bool b3) ∧ R (Ending.returned (Value.bool b3)) w

set_option maxRecDepth 100000 in
theorem ascont_eq («as» : Option Addr) (c : Int) (w : World) (R : Ending → World → Prop) : ascont_T «as» c w R = vcFn Tryd.prog [] [] Tryd.f107 [Value.pointer «as», Value.int IntKind.u8 c] w R := by kernel_rfl

set_option maxRecDepth 100000 in
theorem ascont_vc («as» : Option Addr) (c : Int) (w : World) (R : Ending → World → Prop) (h : ascont_T «as» c w R) : Calls Tryd.prog 107 #[Value.pointer «as», Value.int IntKind.u8 c] w R :=
  calls_of_vc (args := [Value.pointer «as», Value.int IntKind.u8 c]) [] [] Tryd.mixed Tryd.func107 (cast (ascont_eq _ _ w R) h)

set_option maxRecDepth 100000 in
def sright_T (cols_p : Option Addr) (cols_n : Nat) (cols_c : Nat) (w : World) (R : Ending → World → Prop) : Prop :=
  ∀ (b1 : Nat) (w'2 : World),
 New w (Obj.map #[] 0) b1 w'2 →
 ∃ (I4 : Int → World → Prop),
 ∃ (M5 : Int → World → Nat),
 I4 0 w'2 ∧
 ∀ (n6 : Int) (w'7 : World),
 I4 n6 w'7 →
 (n6 < (↑cols_n : Int) →
 ∃ (b10 : Nat),
 ∃ (o11 : Nat),
 cols_p = some (Addr.mk b10 o11 none) ∧
 0 ≤ n6 ∧
 n6 < (↑cols_n : Int) ∧
 ∃ (s12 : ByteArray),
 w'7.cell? (Addr.mk b10 (o11 + n6.toNat * 3) none) = some (Value.string s12) ∧
 ∃ (n13 : Int),
 w'7.cell? (Addr.mk b10 (o11 + n6.toNat * 3 + 1) none) = some (Value.int IntKind.i64 n13) ∧
 ∃ (b14 : Bool),
 w'7.cell? (Addr.mk b10 (o11 + n6.toNat * 3 + 2) none) = some (Value.bool b14) ∧
 ∀ (b15 : Nat) (w'16 : World),
 New w'7 (Obj.cells #[Value.string (ByteArray.mk #[]), Value.int IntKind.i64 0, Value.bool false] 50) b15 w'16 →
 (∃ (u18 : Value), w'16.cell? (Addr.mk b15 0 none) = some u18) ∧
 w'16.frozen? (Addr.mk b15 0 none) = false ∧
 (∃ (u19 : Value), w'16.cell? (Addr.mk b15 1 none) = some u19) ∧
 w'16.frozen? (Addr.mk b15 1 none) = false ∧
 (∃ (u20 : Value), w'16.cell? (Addr.mk b15 2 none) = some u20) ∧
 w'16.frozen? (Addr.mk b15 2 none) = false ∧
 ∀ (w'21 : World),
 Put w'16 b15 0 [Value.string s12, Value.int IntKind.i64 n13, Value.bool b14] w'21 →
 ∃ (s23 : ByteArray),
 w'21.cell? (Addr.mk b15 0 none) = some (Value.string s23) ∧
 Calls Tryd.prog 42 #[Value.string s23] w'21 fun (e24 : Ending) (w25 : World) ↦
 ∃ (b26 : Bool),
 e24 = Ending.returned (Value.bool b26) ∧
 (b26 = false → R (Ending.returned (Value.bool false)) w25) ∧
 (b26 = true →
 ∃ (s29 : ByteArray),
 w25.cell? (Addr.mk b15 0 none) = some (Value.string s29) ∧
 ∃ (b30 : Bool),
 (∀ (w131 : World), Same w25 w131 → Sem.run Tryd.prog (Instr.lookup 61 (Value.map (some b1)) (Value.string s29) false) w131 = Result.ok (Value.bool b30) w131) ∧
 (b30 = true → R (Ending.returned (Value.bool false)) w25) ∧
 (b30 = false →
 ∃ (n35 : Int),
 w25.cell? (Addr.mk b15 1 none) = some (Value.int IntKind.i64 n35) ∧
 (n35 < 1 → R (Ending.returned (Value.bool false)) w25) ∧
 (1 ≤ n35 →
 ∃ (n38 : Int),
 w25.cell? (Addr.mk b15 1 none) = some (Value.int IntKind.i64 n38) ∧
 (3 < n38 → R (Ending.returned (Value.bool false)) w25) ∧
 (n38 ≤ 3 →
 ∃ (s41 : ByteArray),
 w25.cell? (Addr.mk b15 0 none) = some (Value.string s41) ∧
 ∃ (w'42 : World),
 Sem.run Tryd.prog (Instr.mapUpdate 61 (Value.map (some b1)) (Value.string s41) (Value.bool true)) w25 = Result.ok () w'42 ∧
 I4 (IntKind.i64.wrap (n6 + 1)) w'42 ∧ M5 (IntKind.i64.wrap (n6 + 1)) w'42 < M5 n6 w'7))))) ∧
 ((↑cols_n : Int) ≤ n6 → R (Ending.returned (Value.bool (decide (0 < (↑cols_n : Int)) && decide ((↑cols_n : Int) ≤ 16)))) w'7)

set_option maxRecDepth 100000 in
theorem sright_eq (cols_p : Option Addr) (cols_n : Nat) (cols_c : Nat) (w : World) (R : Ending → World → Prop) : sright_T cols_p cols_n cols_c w R = vcFn Tryd.prog [] [] Tryd.f26 [Value.slice cols_p cols_n cols_c] w R := by kernel_rfl

set_option maxRecDepth 100000 in
theorem sright_vc (cols_p : Option Addr) (cols_n : Nat) (cols_c : Nat) (w : World) (R : Ending → World → Prop) (h : sright_T cols_p cols_n cols_c w R) : Calls Tryd.prog 26 #[Value.slice cols_p cols_n cols_c] w R :=
  calls_of_vc (args := [Value.slice cols_p cols_n cols_c]) [] [] Tryd.mixed Tryd.func26 (cast (sright_eq _ _ _ w R) h)

set_option maxRecDepth 100000 in
def sfits_T (cols_p : Option Addr) (cols_n : Nat) (cols_c : Nat) (row_p : Option Addr) (row_n : Nat) (row_c : Nat) (w : World) (R : Ending → World → Prop) : Prop :=
  Calls Tryd.prog 26 #[Value.slice cols_p cols_n cols_c] w fun (e1 : Ending) (w2 : World) ↦
 ∃ (b3 : Bool),
 e1 = Ending.returned (Value.bool b3) ∧
 (b3 = true →
 Calls Tryd.prog 50 #[Value.slice cols_p cols_n cols_c, Value.slice row_p row_n row_c] w2 fun (e5 : Ending) (w6 : World) ↦
 ∃ (b7 : Bool), e5 = Ending.returned (Value.bool b7) ∧ R (Ending.returned (Value.bool b7)) w6) ∧
 (b3 = false → R (Ending.returned (Value.bool false)) w2)

set_option maxRecDepth 100000 in
theorem sfits_eq (cols_p : Option Addr) (cols_n : Nat) (cols_c : Nat) (row_p : Option Addr) (row_n : Nat) (row_c : Nat) (w : World) (R : Ending → World → Prop) : sfits_T cols_p cols_n cols_c row_p row_n row_c w R = vcFn Tryd.prog [] [] Tryd.f34 [Value.slice cols_p cols_n cols_c, Value.slice row_p row_n row_c] w R := by kernel_rfl

set_option maxRecDepth 100000 in
theorem sfits_vc (cols_p : Option Addr) (cols_n : Nat) (cols_c : Nat) (row_p : Option Addr) (row_n : Nat) (row_c : Nat) (w : World) (R : Ending → World → Prop) (h : sfits_T cols_p cols_n cols_c row_p row_n row_c w R) : Calls Tryd.prog 34 #[Value.slice cols_p cols_n cols_c, Value.slice row_p row_n row_c] w R :=
  calls_of_vc (args := [Value.slice cols_p cols_n cols_c, Value.slice row_p row_n row_c]) [] [] Tryd.mixed Tryd.func34 (cast (sfits_eq _ _ _ _ _ _ w R) h)

set_option maxRecDepth 100000 in
def sfits0_T (cols_p : Option Addr) (cols_n : Nat) (cols_c : Nat) (row_p : Option Addr) (row_n : Nat) (row_c : Nat) (w : World) (R : Ending → World → Prop) : Prop :=
  ∀ (b1 : Nat) (w'2 : World),
 New w (Obj.cells #[Value.bool false] 4) b1 w'2 →
 ((↑row_n : Int) ≠ (↑cols_n : Int) →
 (∃ (u5 : Value), w'2.cell? (Addr.mk b1 0 none) = some u5) ∧
 w'2.frozen? (Addr.mk b1 0 none) = false ∧
 ∀ (w'6 : World), Put w'2 b1 0 [Value.bool false] w'6 → ∃ (b8 : Bool), w'6.cell? (Addr.mk b1 0 none) = some (Value.bool b8) ∧ R (Ending.returned (Value.bool b8)) w'6) ∧
 ((↑row_n : Int) = (↑cols_n : Int) →
 Calls Tryd.prog 75 #[Value.slice cols_p cols_n cols_c, Value.slice row_p row_n row_c] w'2 fun (e10 : Ending) (w11 : World) ↦
 ∃ (v12 : Value),
 e10 = Ending.returned v12 ∧
 ∃ (g13 : FuncId),
 ∃ (lb14 : Array Value),
 v12 = Value.func (Fn.func g13) #[] lb14 ∧
 enterable Tryd.prog g13 = true ∧
 ∀ (r15 : Nat → Loop) (d16 l17 : Nat) (w118 : World),
 Began w11 r15 d16 l17 w118 →
 (∀ (s20 : ByteArray) (n21 : Int) (b22 : Bool) (n23 n24 : Int) (s25 : ByteArray) (W26 : World) (R27 : Bool → World → Prop),
 Rec r15 l17 0 W26 →
 (∀ (b29 : Nat) (w'30 : World),
 New W26 (Obj.cells #[Value.string (ByteArray.mk #[]), Value.int IntKind.i64 0, Value.bool false] 50) b29 w'30 →
 (∃ (u32 : Value), w'30.cell? (Addr.mk b29 0 none) = some u32) ∧
 w'30.frozen? (Addr.mk b29 0 none) = false ∧
 (∃ (u33 : Value), w'30.cell? (Addr.mk b29 1 none) = some u33) ∧
 w'30.frozen? (Addr.mk b29 1 none) = false ∧
 (∃ (u34 : Value), w'30.cell? (Addr.mk b29 2 none) = some u34) ∧
 w'30.frozen? (Addr.mk b29 2 none) = false ∧
 ∀ (w'35 : World),
 Put w'30 b29 0 [Value.string s20, Value.int IntKind.i64 n21, Value.bool b22] w'35 →
 ∀ (b37 : Nat) (w'38 : World),
 New w'35 (Obj.cells #[Value.int IntKind.i64 0, Value.int IntKind.i64 0, Value.string (ByteArray.mk #[])] 26) b37 w'38 →
 (∃ (u40 : Value), w'38.cell? (Addr.mk b37 0 none) = some u40) ∧
 w'38.frozen? (Addr.mk b37 0 none) = false ∧
 (∃ (u41 : Value), w'38.cell? (Addr.mk b37 1 none) = some u41) ∧
 w'38.frozen? (Addr.mk b37 1 none) = false ∧
 (∃ (u42 : Value), w'38.cell? (Addr.mk b37 2 none) = some u42) ∧
 w'38.frozen? (Addr.mk b37 2 none) = false ∧
 ∀ (w'43 : World),
 Put w'38 b37 0 [Value.int IntKind.i64 n23, Value.int IntKind.i64 n24, Value.string s25] w'43 →
 Rec r15 l17 0 w'43 ∧
 ∀ (Wb45 : World),
 Wb45 = turn r15 l17 1 w'43 →
 ∃ (n47 : Int),
 Wb45.cell? (Addr.mk b37 0 none) = some (Value.int IntKind.i64 n47) ∧
 ∃ (n48 : Int),
 Wb45.cell? (Addr.mk b37 1 none) = some (Value.int IntKind.i64 n48) ∧
 ∃ (s49 : ByteArray),
 Wb45.cell? (Addr.mk b37 2 none) = some (Value.string s49) ∧
 Calls Tryd.prog 43 #[Value.agg #[Value.int IntKind.i64 n47, Value.int IntKind.i64 n48, Value.string s49]] Wb45 fun (e50 : Ending) (w51 : World) ↦
 ∃ (b52 : Bool),
 e50 = Ending.returned (Value.bool b52) ∧
 (b52 = false →
 (∃ (u54 : Value), w51.cell? (Addr.mk b1 0 none) = some u54) ∧
 w51.frozen? (Addr.mk b1 0 none) = false ∧ ∀ (w'55 : World), Put w51 b1 0 [Value.bool false] w'55 → Rec r15 l17 1 w'55 ∧ R27 false (turn r15 l17 3 w'55)) ∧
 (b52 = true →
 ∃ (n58 : Int),
 w51.cell? (Addr.mk b37 0 none) = some (Value.int IntKind.i64 n58) ∧
 ∃ (n59 : Int),
 w51.cell? (Addr.mk b29 1 none) = some (Value.int IntKind.i64 n59) ∧
 (n58 ≠ n59 →
 ∃ (b61 : Bool),
 w51.cell? (Addr.mk b29 2 none) = some (Value.bool b61) ∧
 (b61 = true →
 ∃ (n63 : Int),
 w51.cell? (Addr.mk b37 0 none) = some (Value.int IntKind.i64 n63) ∧
 (n63 ≠ 0 →
 (∃ (u65 : Value), w51.cell? (Addr.mk b1 0 none) = some u65) ∧
 w51.frozen? (Addr.mk b1 0 none) = false ∧ ∀ (w'66 : World), Put w51 b1 0 [Value.bool false] w'66 → Rec r15 l17 1 w'66 ∧ R27 false (turn r15 l17 3 w'66)) ∧
 (n63 = 0 → Rec r15 l17 1 w51 ∧ R27 true (turn r15 l17 0 w51))) ∧
 (b61 = false →
 (∃ (u70 : Value), w51.cell? (Addr.mk b1 0 none) = some u70) ∧
 w51.frozen? (Addr.mk b1 0 none) = false ∧ ∀ (w'71 : World), Put w51 b1 0 [Value.bool false] w'71 → Rec r15 l17 1 w'71 ∧ R27 false (turn r15 l17 3 w'71))) ∧
 (n58 = n59 → Rec r15 l17 1 w51 ∧ R27 true (turn r15 l17 0 w51)))) →
 Yield Tryd.prog l17
 #[Value.agg #[Value.string s20, Value.int IntKind.i64 n21, Value.bool b22], Value.agg #[Value.int IntKind.i64 n23, Value.int IntKind.i64 n24, Value.string s25]] W26
 fun (b75 : Bool) (w76 : World) ↦ R27 b75 w76) →
 Calls Tryd.prog g13 (Value.func (Fn.yield l17) #[] #[] :: lb14.1).toArray w118 fun (e78 : Ending) (w79 : World) ↦
 (∃ (v80 : Value), e78 = Ending.returned v80) ∧
 ((Rec r15 l17 0 w79 ∧
 (∃ (u81 : Value), (turn r15 l17 2 w79).cell? (Addr.mk b1 0 none) = some u81) ∧
 (turn r15 l17 2 w79).frozen? (Addr.mk b1 0 none) = false ∧
 ∀ (w'82 : World),
 Put (turn r15 l17 2 w79) b1 0 [Value.bool true] w'82 →
 w'82.heap[d16]? = some (Obj.deferred (some [])) ∧
 ∃ (b86 : Bool),
 (w'82.putObj d16 (Obj.deferred none)).cell? (Addr.mk b1 0 none) = some (Value.bool b86) ∧ R (Ending.returned (Value.bool b86)) (w'82.putObj d16 (Obj.deferred none))) ∨
 (Rec r15 l17 3 w79 ∧
 (turn r15 l17 4 w79).heap[d16]? = some (Obj.deferred (some [])) ∧
 ∃ (b89 : Bool),
 ((turn r15 l17 4 w79).putObj d16 (Obj.deferred none)).cell? (Addr.mk b1 0 none) = some (Value.bool b89) ∧
 R (Ending.returned (Value.bool b89)) ((turn r15 l17 4 w79).putObj d16 (Obj.deferred none))) ∨
 False))

set_option maxRecDepth 100000 in
theorem sfits0_eq (cols_p : Option Addr) (cols_n : Nat) (cols_c : Nat) (row_p : Option Addr) (row_n : Nat) (row_c : Nat) (w : World) (R : Ending → World → Prop) : sfits0_T cols_p cols_n cols_c row_p row_n row_c w R = vcFn Tryd.prog [] [] Tryd.f50 [Value.slice cols_p cols_n cols_c, Value.slice row_p row_n row_c] w R := by kernel_rfl

set_option maxRecDepth 100000 in
theorem sfits0_vc (cols_p : Option Addr) (cols_n : Nat) (cols_c : Nat) (row_p : Option Addr) (row_n : Nat) (row_c : Nat) (w : World) (R : Ending → World → Prop) (h : sfits0_T cols_p cols_n cols_c row_p row_n row_c w R) : Calls Tryd.prog 50 #[Value.slice cols_p cols_n cols_c, Value.slice row_p row_n row_c] w R :=
  calls_of_vc (args := [Value.slice cols_p cols_n cols_c, Value.slice row_p row_n row_c]) [] [] Tryd.mixed Tryd.func50 (cast (sfits0_eq _ _ _ _ _ _ w R) h)

set_option maxRecDepth 100000 in
def spairs_T (cols_p : Option Addr) (cols_n : Nat) (cols_c : Nat) (row_p : Option Addr) (row_n : Nat) (row_c : Nat) (w : World) (R : Ending → World → Prop) : Prop :=
  ∀ (b1 : Nat) (w'2 : World),
 New w (Obj.cells #[Value.slice cols_p cols_n cols_c] 22) b1 w'2 →
 ∀ (b4 : Nat) (w'5 : World),
 New w'2 (Obj.cells #[Value.slice row_p row_n row_c] 24) b4 w'5 →
 R (Ending.returned (Value.func (Fn.func 99) #[] #[Value.pointer (some (Addr.mk b1 0 none)), Value.pointer (some (Addr.mk b4 0 none))])) w'5

set_option maxRecDepth 100000 in
theorem spairs_eq (cols_p : Option Addr) (cols_n : Nat) (cols_c : Nat) (row_p : Option Addr) (row_n : Nat) (row_c : Nat) (w : World) (R : Ending → World → Prop) : spairs_T cols_p cols_n cols_c row_p row_n row_c w R = vcFn Tryd.prog [] [] Tryd.f75 [Value.slice cols_p cols_n cols_c, Value.slice row_p row_n row_c] w R := by kernel_rfl

set_option maxRecDepth 100000 in
theorem spairs_vc (cols_p : Option Addr) (cols_n : Nat) (cols_c : Nat) (row_p : Option Addr) (row_n : Nat) (row_c : Nat) (w : World) (R : Ending → World → Prop) (h : spairs_T cols_p cols_n cols_c row_p row_n row_c w R) : Calls Tryd.prog 75 #[Value.slice cols_p cols_n cols_c, Value.slice row_p row_n row_c] w R :=
  calls_of_vc (args := [Value.slice cols_p cols_n cols_c, Value.slice row_p row_n row_c]) [] [] Tryd.mixed Tryd.func75 (cast (spairs_eq _ _ _ _ _ _ w R) h)

set_option maxRecDepth 100000 in
def spairs1_T (l0 : Nat) (fv0 : Nat) (fv1 : Nat) (w : World) (R : Ending → World → Prop) : Prop :=
  ∃ (p1 : Option Addr),
 ∃ (n2 : Nat),
 ∃ (c3 : Nat),
 w.cell? (Addr.mk fv0 0 none) = some (Value.slice p1 n2 c3) ∧
 ∃ (I4 : Int → World → Prop),
 ∃ (M5 : Int → World → Nat),
 I4 0 w ∧
 ∀ (n6 : Int) (w'7 : World),
 I4 n6 w'7 →
 (n6 < (↑n2 : Int) →
 ∃ (b10 : Nat),
 ∃ (o11 : Nat),
 p1 = some (Addr.mk b10 o11 none) ∧
 0 ≤ n6 ∧
 n6 < (↑n2 : Int) ∧
 ∃ (s12 : ByteArray),
 w'7.cell? (Addr.mk b10 (o11 + n6.toNat * 3) none) = some (Value.string s12) ∧
 ∃ (n13 : Int),
 w'7.cell? (Addr.mk b10 (o11 + n6.toNat * 3 + 1) none) = some (Value.int IntKind.i64 n13) ∧
 ∃ (b14 : Bool),
 w'7.cell? (Addr.mk b10 (o11 + n6.toNat * 3 + 2) none) = some (Value.bool b14) ∧
 ∀ (b15 : Nat) (w'16 : World),
 New w'7 (Obj.cells #[Value.string (ByteArray.mk #[]), Value.int IntKind.i64 0, Value.bool false] 50) b15 w'16 →
 (∃ (u18 : Value), w'16.cell? (Addr.mk b15 0 none) = some u18) ∧
 w'16.frozen? (Addr.mk b15 0 none) = false ∧
 (∃ (u19 : Value), w'16.cell? (Addr.mk b15 1 none) = some u19) ∧
 w'16.frozen? (Addr.mk b15 1 none) = false ∧
 (∃ (u20 : Value), w'16.cell? (Addr.mk b15 2 none) = some u20) ∧
 w'16.frozen? (Addr.mk b15 2 none) = false ∧
 ∀ (w'21 : World),
 Put w'16 b15 0 [Value.string s12, Value.int IntKind.i64 n13, Value.bool b14] w'21 →
 ∀ (w'23 : World),
 Drew w'21 w'23 →
 ∃ (s25 : ByteArray),
 w'23.cell? (Addr.mk b15 0 none) = some (Value.string s25) ∧
 ∃ (n26 : Int),
 w'23.cell? (Addr.mk b15 1 none) = some (Value.int IntKind.i64 n26) ∧
 ∃ (b27 : Bool),
 w'23.cell? (Addr.mk b15 2 none) = some (Value.bool b27) ∧
 ∃ (p28 : Option Addr),
 ∃ (n29 : Nat),
 ∃ (c30 : Nat),
 w'23.cell? (Addr.mk fv1 0 none) = some (Value.slice p28 n29 c30) ∧
 ∃ (b31 : Nat),
 ∃ (o32 : Nat),
 p28 = some (Addr.mk b31 o32 none) ∧
 0 ≤ n6 ∧
 n6 < (↑n29 : Int) ∧
 ∃ (n33 : Int),
 w'23.cell? (Addr.mk b31 (o32 + n6.toNat * 3) none) = some (Value.int IntKind.i64 n33) ∧
 ∃ (n34 : Int),
 w'23.cell? (Addr.mk b31 (o32 + n6.toNat * 3 + 1) none) = some (Value.int IntKind.i64 n34) ∧
 ∃ (s35 : ByteArray),
 w'23.cell? (Addr.mk b31 (o32 + n6.toNat * 3 + 2) none) = some (Value.string s35) ∧
 Yield Tryd.prog l0
 #[Value.agg #[Value.string s25, Value.int IntKind.i64 n26, Value.bool b27], Value.agg #[Value.int IntKind.i64 n33, Value.int IntKind.i64 n34, Value.string s35]] w'23
 fun (b36 : Bool) (w37 : World) ↦
 (b36 = false → R (Ending.returned (Value.tuple #[])) w37) ∧ (b36 = true → I4 (IntKind.i64.wrap (n6 + 1)) w37 ∧ M5 (IntKind.i64.wrap (n6 + 1)) w37 < M5 n6 w'7)) ∧
 ((↑n2 : Int) ≤ n6 → R (Ending.returned (Value.tuple #[])) w'7)

set_option maxRecDepth 100000 in
theorem spairs1_eq (l0 : Nat) (fv0 : Nat) (fv1 : Nat) (w : World) (R : Ending → World → Prop) : spairs1_T l0 fv0 fv1 w R = vcFn Tryd.prog [] [(3, [2, 4, 6, 8, 10, 12, 14, 16, 0])] Tryd.f99 [Value.func (Fn.yield l0) #[] #[], Value.pointer (some (Addr.mk fv0 0 none)), Value.pointer (some (Addr.mk fv1 0 none))] w R := by kernel_rfl

set_option maxRecDepth 100000 in
theorem spairs1_vc (l0 : Nat) (fv0 : Nat) (fv1 : Nat) (w : World) (R : Ending → World → Prop) (h : spairs1_T l0 fv0 fv1 w R) : Calls Tryd.prog 99 #[Value.func (Fn.yield l0) #[] #[], Value.pointer (some (Addr.mk fv0 0 none)), Value.pointer (some (Addr.mk fv1 0 none))] w R :=
  calls_of_vc (args := [Value.func (Fn.yield l0) #[] #[], Value.pointer (some (Addr.mk fv0 0 none)), Value.pointer (some (Addr.mk fv1 0 none))]) [] [(3, [2, 4, 6, 8, 10, 12, 14, 16, 0])] Tryd.mixed Tryd.func99 (cast (spairs1_eq _ _ _ w R) h)

set_option maxRecDepth 100000 in
def sfind_T (cols_p : Option Addr) (cols_n : Nat) (cols_c : Nat) (name : ByteArray) (w : World) (R : Ending → World → Prop) : Prop :=
  ∀ (b1 : Nat) (w'2 : World),
 New w (Obj.cells #[Value.string name] 9) b1 w'2 →
 Calls Tryd.prog 62 #[Value.slice cols_p cols_n cols_c, Value.func (Fn.func 63) #[] #[Value.pointer (some (Addr.mk b1 0 none))]] w'2 fun (e4 : Ending) (w5 : World) ↦
 ∃ (n6 : Int), e4 = Ending.returned (Value.int IntKind.i64 n6) ∧ R (Ending.returned (Value.int IntKind.i64 n6)) w5

set_option maxRecDepth 100000 in
theorem sfind_eq (cols_p : Option Addr) (cols_n : Nat) (cols_c : Nat) (name : ByteArray) (w : World) (R : Ending → World → Prop) : sfind_T cols_p cols_n cols_c name w R = vcFn Tryd.prog [] [] Tryd.f45 [Value.slice cols_p cols_n cols_c, Value.string name] w R := by kernel_rfl

set_option maxRecDepth 100000 in
theorem sfind_vc (cols_p : Option Addr) (cols_n : Nat) (cols_c : Nat) (name : ByteArray) (w : World) (R : Ending → World → Prop) (h : sfind_T cols_p cols_n cols_c name w R) : Calls Tryd.prog 45 #[Value.slice cols_p cols_n cols_c, Value.string name] w R :=
  calls_of_vc (args := [Value.slice cols_p cols_n cols_c, Value.string name]) [] [] Tryd.mixed Tryd.func45 (cast (sfind_eq _ _ _ _ w R) h)

set_option maxRecDepth 100000 in
def sfind1_T (c0 : ByteArray) (c1 : Int) (c2 : Bool) (fv0 : Nat) (w : World) (R : Ending → World → Prop) : Prop :=
  ∀ (b1 : Nat) (w'2 : World),
 New w (Obj.cells #[Value.string c0, Value.int IntKind.i64 c1, Value.bool c2] 50) b1 w'2 →
 ∃ (s4 : ByteArray),
 w'2.cell? (Addr.mk b1 0 none) = some (Value.string s4) ∧
 ∃ (s5 : ByteArray), w'2.cell? (Addr.mk fv0 0 none) = some (Value.string s5) ∧ R (Ending.returned (Value.bool (sEq s4 s5))) w'2

set_option maxRecDepth 100000 in
theorem sfind1_eq (c0 : ByteArray) (c1 : Int) (c2 : Bool) (fv0 : Nat) (w : World) (R : Ending → World → Prop) : sfind1_T c0 c1 c2 fv0 w R = vcFn Tryd.prog [] [] Tryd.f63 [Value.agg #[Value.string c0, Value.int IntKind.i64 c1, Value.bool c2], Value.pointer (some (Addr.mk fv0 0 none))] w R := by kernel_rfl

set_option maxRecDepth 100000 in
theorem sfind1_vc (c0 : ByteArray) (c1 : Int) (c2 : Bool) (fv0 : Nat) (w : World) (R : Ending → World → Prop) (h : sfind1_T c0 c1 c2 fv0 w R) : Calls Tryd.prog 63 #[Value.agg #[Value.string c0, Value.int IntKind.i64 c1, Value.bool c2], Value.pointer (some (Addr.mk fv0 0 none))] w R :=
  calls_of_vc (args := [Value.agg #[Value.string c0, Value.int IntKind.i64 c1, Value.bool c2], Value.pointer (some (Addr.mk fv0 0 none))]) [] [] Tryd.mixed Tryd.func63 (cast (sfind1_eq _ _ _ _ w R) h)

set_option maxRecDepth 100000 in
def ifcol_T (s_p : Option Addr) (s_n : Nat) (s_c : Nat) (cv1_0 : Nat) (w : World) (R : Ending → World → Prop) : Prop :=
  ∃ (I1 : Int → World → Prop),
 ∃ (M2 : Int → World → Nat),
 I1 0 w ∧
 ∀ (n3 : Int) (w'4 : World),
 I1 n3 w'4 →
 (n3 < (↑s_n : Int) →
 ∃ (b7 : Nat),
 ∃ (o8 : Nat),
 s_p = some (Addr.mk b7 o8 none) ∧
 0 ≤ n3 ∧
 n3 < (↑s_n : Int) ∧
 ∃ (s9 : ByteArray),
 w'4.cell? (Addr.mk b7 (o8 + n3.toNat * 3) none) = some (Value.string s9) ∧
 ∃ (n10 : Int),
 w'4.cell? (Addr.mk b7 (o8 + n3.toNat * 3 + 1) none) = some (Value.int IntKind.i64 n10) ∧
 ∃ (b11 : Bool),
 w'4.cell? (Addr.mk b7 (o8 + n3.toNat * 3 + 2) none) = some (Value.bool b11) ∧
 Calls Tryd.prog 63 #[Value.agg #[Value.string s9, Value.int IntKind.i64 n10, Value.bool b11], Value.pointer (some (Addr.mk cv1_0 0 none))] w'4
 fun (e12 : Ending) (w13 : World) ↦
 ∃ (b14 : Bool),
 e12 = Ending.returned (Value.bool b14) ∧
 (b14 = true → R (Ending.returned (Value.int IntKind.i64 n3)) w13) ∧ (b14 = false → I1 (IntKind.i64.wrap (n3 + 1)) w13 ∧ M2 (IntKind.i64.wrap (n3 + 1)) w13 < M2 n3 w'4)) ∧
 ((↑s_n : Int) ≤ n3 → R (Ending.returned (Value.int IntKind.i64 (-1))) w'4)

set_option maxRecDepth 100000 in
theorem ifcol_eq (s_p : Option Addr) (s_n : Nat) (s_c : Nat) (cv1_0 : Nat) (w : World) (R : Ending → World → Prop) : ifcol_T s_p s_n s_c cv1_0 w R = vcFn Tryd.prog [] [] Tryd.f62 [Value.slice s_p s_n s_c, Value.func (Fn.func 63) #[] #[Value.pointer (some (Addr.mk cv1_0 0 none))]] w R := by kernel_rfl

set_option maxRecDepth 100000 in
theorem ifcol_vc (s_p : Option Addr) (s_n : Nat) (s_c : Nat) (cv1_0 : Nat) (w : World) (R : Ending → World → Prop) (h : ifcol_T s_p s_n s_c cv1_0 w R) : Calls Tryd.prog 62 #[Value.slice s_p s_n s_c, Value.func (Fn.func 63) #[] #[Value.pointer (some (Addr.mk cv1_0 0 none))]] w R :=
  calls_of_vc (args := [Value.slice s_p s_n s_c, Value.func (Fn.func 63) #[] #[Value.pointer (some (Addr.mk cv1_0 0 none))]]) [] [] Tryd.mixed Tryd.func62 (cast (ifcol_eq _ _ _ _ w R) h)

set_option maxRecDepth 100000 in
def r5isname_T (s : ByteArray) (w : World) (R : Ending → World → Prop) : Prop :=
  ∃ (I1 : Int → World → Prop),
 ∃ (M2 : Int → World → Nat),
 I1 0 w ∧
 ∀ (n3 : Int) (w'4 : World),
 I1 n3 w'4 →
 (n3 < (↑s.size : Int) →
 0 ≤ n3 ∧
 n3 < (↑s.size : Int) ∧
 (97 ≤ bAt s n3.toNat →
 0 ≤ n3 ∧
 n3 < (↑s.size : Int) ∧
 0 ≤ n3 ∧
 n3 < (↑s.size : Int) ∧
 (48 ≤ bAt s n3.toNat →
 0 ≤ n3 ∧
 n3 < (↑s.size : Int) ∧
 (bAt s n3.toNat ≤ 57 →
 (122 < bAt s n3.toNat →
 (n3 = 0 → R (Ending.returned (Value.bool false)) w'4) ∧ (n3 ≠ 0 → I1 (IntKind.i64.wrap (n3 + 1)) w'4 ∧ M2 (IntKind.i64.wrap (n3 + 1)) w'4 < M2 n3 w'4)) ∧
 (bAt s n3.toNat ≤ 122 → I1 (IntKind.i64.wrap (n3 + 1)) w'4 ∧ M2 (IntKind.i64.wrap (n3 + 1)) w'4 < M2 n3 w'4)) ∧
 (57 < bAt s n3.toNat →
 0 ≤ n3 ∧
 n3 < (↑s.size : Int) ∧
 (122 < bAt s n3.toNat →
 (bAt s n3.toNat ≠ 95 ∨ n3 = 0 → R (Ending.returned (Value.bool false)) w'4) ∧
 (bAt s n3.toNat = 95 ∧ n3 ≠ 0 → I1 (IntKind.i64.wrap (n3 + 1)) w'4 ∧ M2 (IntKind.i64.wrap (n3 + 1)) w'4 < M2 n3 w'4)) ∧
 (bAt s n3.toNat ≤ 122 → I1 (IntKind.i64.wrap (n3 + 1)) w'4 ∧ M2 (IntKind.i64.wrap (n3 + 1)) w'4 < M2 n3 w'4))) ∧
 (bAt s n3.toNat < 48 →
 0 ≤ n3 ∧
 n3 < (↑s.size : Int) ∧
 (122 < bAt s n3.toNat →
 (bAt s n3.toNat ≠ 95 ∨ n3 = 0 → R (Ending.returned (Value.bool false)) w'4) ∧
 (bAt s n3.toNat = 95 ∧ n3 ≠ 0 → I1 (IntKind.i64.wrap (n3 + 1)) w'4 ∧ M2 (IntKind.i64.wrap (n3 + 1)) w'4 < M2 n3 w'4)) ∧
 (bAt s n3.toNat ≤ 122 → I1 (IntKind.i64.wrap (n3 + 1)) w'4 ∧ M2 (IntKind.i64.wrap (n3 + 1)) w'4 < M2 n3 w'4))) ∧
 (bAt s n3.toNat < 97 →
 0 ≤ n3 ∧
 n3 < (↑s.size : Int) ∧
 (48 ≤ bAt s n3.toNat →
 0 ≤ n3 ∧
 n3 < (↑s.size : Int) ∧
 (bAt s n3.toNat ≤ 57 →
 (n3 = 0 → R (Ending.returned (Value.bool false)) w'4) ∧ (n3 ≠ 0 → I1 (IntKind.i64.wrap (n3 + 1)) w'4 ∧ M2 (IntKind.i64.wrap (n3 + 1)) w'4 < M2 n3 w'4)) ∧
 (57 < bAt s n3.toNat →
 0 ≤ n3 ∧
 n3 < (↑s.size : Int) ∧
 (bAt s n3.toNat ≠ 95 ∨ n3 = 0 → R (Ending.returned (Value.bool false)) w'4) ∧
 (bAt s n3.toNat = 95 ∧ n3 ≠ 0 → I1 (IntKind.i64.wrap (n3 + 1)) w'4 ∧ M2 (IntKind.i64.wrap (n3 + 1)) w'4 < M2 n3 w'4))) ∧
 (bAt s n3.toNat < 48 →
 0 ≤ n3 ∧
 n3 < (↑s.size : Int) ∧
 (bAt s n3.toNat ≠ 95 ∨ n3 = 0 → R (Ending.returned (Value.bool false)) w'4) ∧
 (bAt s n3.toNat = 95 ∧ n3 ≠ 0 → I1 (IntKind.i64.wrap (n3 + 1)) w'4 ∧ M2 (IntKind.i64.wrap (n3 + 1)) w'4 < M2 n3 w'4)))) ∧
 ((↑s.size : Int) ≤ n3 → R (Ending.returned (Value.bool (decide (1 ≤ (↑s.size : Int)) && decide ((↑s.size : Int) ≤ 24)))) w'4)

set_option maxRecDepth 100000 in
theorem r5isname_eq (s : ByteArray) (w : World) (R : Ending → World → Prop) : r5isname_T s w R = vcFn Tryd.prog [] [] Tryd.f46 [Value.string s] w R := by kernel_rfl

set_option maxRecDepth 100000 in
theorem r5isname_vc (s : ByteArray) (w : World) (R : Ending → World → Prop) (h : r5isname_T s w R) : Calls Tryd.prog 46 #[Value.string s] w R :=
  calls_of_vc (args := [Value.string s]) [] [] Tryd.mixed Tryd.func46 (cast (r5isname_eq _ w R) h)

set_option maxRecDepth 100000 in
def r5find_T (cols_p : Option Addr) (cols_n : Nat) (cols_c : Nat) (name : ByteArray) (w : World) (R : Ending → World → Prop) : Prop :=
  ∃ (I1 : Int → World → Prop),
 ∃ (M2 : Int → World → Nat),
 I1 0 w ∧
 ∀ (n3 : Int) (w'4 : World),
 I1 n3 w'4 →
 (n3 < (↑cols_n : Int) →
 ∃ (b7 : Nat),
 ∃ (o8 : Nat),
 cols_p = some (Addr.mk b7 o8 none) ∧
 0 ≤ n3 ∧
 n3 < (↑cols_n : Int) ∧
 ∃ (s9 : ByteArray),
 w'4.cell? (Addr.mk b7 (o8 + n3.toNat * 3) none) = some (Value.string s9) ∧
 (s9 = name → R (Ending.returned (Value.int IntKind.i64 n3)) w'4) ∧ (s9 ≠ name → I1 (IntKind.i64.wrap (n3 + 1)) w'4 ∧ M2 (IntKind.i64.wrap (n3 + 1)) w'4 < M2 n3 w'4)) ∧
 ((↑cols_n : Int) ≤ n3 → R (Ending.returned (Value.int IntKind.i64 (-1))) w'4)

set_option maxRecDepth 100000 in
theorem r5find_eq (cols_p : Option Addr) (cols_n : Nat) (cols_c : Nat) (name : ByteArray) (w : World) (R : Ending → World → Prop) : r5find_T cols_p cols_n cols_c name w R = vcFn Tryd.prog [] [] Tryd.f15 [Value.slice cols_p cols_n cols_c, Value.string name] w R := by kernel_rfl

set_option maxRecDepth 100000 in
theorem r5find_vc (cols_p : Option Addr) (cols_n : Nat) (cols_c : Nat) (name : ByteArray) (w : World) (R : Ending → World → Prop) (h : r5find_T cols_p cols_n cols_c name w R) : Calls Tryd.prog 15 #[Value.slice cols_p cols_n cols_c, Value.string name] w R :=
  calls_of_vc (args := [Value.slice cols_p cols_n cols_c, Value.string name]) [] [] Tryd.mixed Tryd.func15 (cast (r5find_eq _ _ _ _ w R) h)

set_option maxRecDepth 100000 in
def r5right_T (cols_p : Option Addr) (cols_n : Nat) (cols_c : Nat) (w : World) (R : Ending → World → Prop) : Prop :=
  ((↑cols_n : Int) < 1 ∨ 16 < (↑cols_n : Int) → R (Ending.returned (Value.bool false)) w) ∧
 (1 ≤ (↑cols_n : Int) ∧ (↑cols_n : Int) ≤ 16 →
 ∃ (I3 : Int → World → Prop),
 ∃ (M4 : Int → World → Nat),
 I3 0 w ∧
 ∀ (n5 : Int) (w'6 : World),
 I3 n5 w'6 →
 (n5 < (↑cols_n : Int) →
 ∃ (b9 : Nat),
 ∃ (o10 : Nat),
 cols_p = some (Addr.mk b9 o10 none) ∧
 0 ≤ n5 ∧
 n5 < (↑cols_n : Int) ∧
 ∃ (s11 : ByteArray),
 w'6.cell? (Addr.mk b9 (o10 + n5.toNat * 3) none) = some (Value.string s11) ∧
 Calls Tryd.prog 46 #[Value.string s11] w'6 fun (e12 : Ending) (w13 : World) ↦
 ∃ (b14 : Bool),
 e12 = Ending.returned (Value.bool b14) ∧
 (b14 = false → R (Ending.returned (Value.bool false)) w13) ∧
 (b14 = true →
 ∃ (b17 : Nat),
 ∃ (o18 : Nat),
 cols_p = some (Addr.mk b17 o18 none) ∧
 0 ≤ n5 ∧
 n5 < (↑cols_n : Int) ∧
 ∃ (s19 : ByteArray),
 w13.cell? (Addr.mk b17 (o18 + n5.toNat * 3) none) = some (Value.string s19) ∧
 Calls Tryd.prog 15 #[Value.slice cols_p cols_n cols_c, Value.string s19] w13 fun (e20 : Ending) (w21 : World) ↦
 ∃ (n22 : Int),
 e20 = Ending.returned (Value.int IntKind.i64 n22) ∧
 (n22 ≠ n5 → R (Ending.returned (Value.bool false)) w21) ∧
 (n22 = n5 →
 ∃ (b25 : Nat),
 ∃ (o26 : Nat),
 cols_p = some (Addr.mk b25 o26 none) ∧
 0 ≤ n5 ∧
 n5 < (↑cols_n : Int) ∧
 ∃ (n27 : Int),
 w21.cell? (Addr.mk b25 (o26 + n5.toNat * 3 + 1) none) = some (Value.int IntKind.i64 n27) ∧
 (n27 < 1 → R (Ending.returned (Value.bool false)) w21) ∧
 (1 ≤ n27 →
 ∃ (b30 : Nat),
 ∃ (o31 : Nat),
 cols_p = some (Addr.mk b30 o31 none) ∧
 0 ≤ n5 ∧
 n5 < (↑cols_n : Int) ∧
 ∃ (n32 : Int),
 w21.cell? (Addr.mk b30 (o31 + n5.toNat * 3 + 1) none) = some (Value.int IntKind.i64 n32) ∧
 (3 < n32 → R (Ending.returned (Value.bool false)) w21) ∧ (n32 ≤ 3 → I3 (IntKind.i64.wrap (n5 + 1)) w21 ∧ M4 (IntKind.i64.wrap (n5 + 1)) w21 < M4 n5 w'6))))) ∧
 ((↑cols_n : Int) ≤ n5 → R (Ending.returned (Value.bool true)) w'6))

set_option maxRecDepth 100000 in
theorem r5right_eq (cols_p : Option Addr) (cols_n : Nat) (cols_c : Nat) (w : World) (R : Ending → World → Prop) : r5right_T cols_p cols_n cols_c w R = vcFn Tryd.prog [] [] Tryd.f29 [Value.slice cols_p cols_n cols_c] w R := by kernel_rfl

set_option maxRecDepth 100000 in
theorem r5right_vc (cols_p : Option Addr) (cols_n : Nat) (cols_c : Nat) (w : World) (R : Ending → World → Prop) (h : r5right_T cols_p cols_n cols_c w R) : Calls Tryd.prog 29 #[Value.slice cols_p cols_n cols_c] w R :=
  calls_of_vc (args := [Value.slice cols_p cols_n cols_c]) [] [] Tryd.mixed Tryd.func29 (cast (r5right_eq _ _ _ w R) h)

set_option maxRecDepth 100000 in
def r5fits_T (cols_p : Option Addr) (cols_n : Nat) (cols_c : Nat) (row_p : Option Addr) (row_n : Nat) (row_c : Nat) (w : World) (R : Ending → World → Prop) : Prop :=
  Calls Tryd.prog 29 #[Value.slice cols_p cols_n cols_c] w fun (e1 : Ending) (w2 : World) ↦
 ∃ (b3 : Bool),
 e1 = Ending.returned (Value.bool b3) ∧
 (b3 = false ∨ (↑row_n : Int) ≠ (↑cols_n : Int) → R (Ending.returned (Value.bool false)) w2) ∧
 (b3 = true ∧ (↑row_n : Int) = (↑cols_n : Int) →
 ∃ (I6 : Int → World → Prop),
 ∃ (M7 : Int → World → Nat),
 I6 0 w2 ∧
 ∀ (n8 : Int) (w'9 : World),
 I6 n8 w'9 →
 (n8 < (↑row_n : Int) →
 ∃ (b12 : Nat),
 ∃ (o13 : Nat),
 row_p = some (Addr.mk b12 o13 none) ∧
 0 ≤ n8 ∧
 n8 < (↑row_n : Int) ∧
 ∃ (n14 : Int),
 w'9.cell? (Addr.mk b12 (o13 + n8.toNat * 3) none) = some (Value.int IntKind.i64 n14) ∧
 ∃ (n15 : Int),
 w'9.cell? (Addr.mk b12 (o13 + n8.toNat * 3 + 1) none) = some (Value.int IntKind.i64 n15) ∧
 ∃ (s16 : ByteArray),
 w'9.cell? (Addr.mk b12 (o13 + n8.toNat * 3 + 2) none) = some (Value.string s16) ∧
 Calls Tryd.prog 30 #[Value.agg #[Value.int IntKind.i64 n14, Value.int IntKind.i64 n15, Value.string s16]] w'9 fun (e17 : Ending) (w18 : World) ↦
 ∃ (b19 : Bool),
 e17 = Ending.returned (Value.bool b19) ∧
 ∀ (w'20 : World),
 Drew w18 w'20 →
 (b19 = false → R (Ending.returned (Value.bool false)) w'20) ∧
 (b19 = true →
 ∃ (b24 : Nat),
 ∃ (o25 : Nat),
 row_p = some (Addr.mk b24 o25 none) ∧
 0 ≤ n8 ∧
 n8 < (↑row_n : Int) ∧
 ∃ (n26 : Int),
 w'20.cell? (Addr.mk b24 (o25 + n8.toNat * 3) none) = some (Value.int IntKind.i64 n26) ∧
 ∃ (b27 : Nat),
 ∃ (o28 : Nat),
 cols_p = some (Addr.mk b27 o28 none) ∧
 0 ≤ n8 ∧
 n8 < (↑cols_n : Int) ∧
 ∃ (n29 : Int),
 w'20.cell? (Addr.mk b27 (o28 + n8.toNat * 3 + 1) none) = some (Value.int IntKind.i64 n29) ∧
 (n26 ≠ n29 →
 ∃ (b31 : Nat),
 ∃ (o32 : Nat),
 row_p = some (Addr.mk b31 o32 none) ∧
 0 ≤ n8 ∧
 n8 < (↑row_n : Int) ∧
 ∃ (n33 : Int),
 w'20.cell? (Addr.mk b31 (o32 + n8.toNat * 3) none) = some (Value.int IntKind.i64 n33) ∧
 (n33 ≠ 0 → R (Ending.returned (Value.bool false)) w'20) ∧
 (n33 = 0 →
 ∃ (b36 : Nat),
 ∃ (o37 : Nat),
 cols_p = some (Addr.mk b36 o37 none) ∧
 0 ≤ n8 ∧
 n8 < (↑cols_n : Int) ∧
 ∃ (b38 : Bool),
 w'20.cell? (Addr.mk b36 (o37 + n8.toNat * 3 + 2) none) = some (Value.bool b38) ∧
 (b38 = false → R (Ending.returned (Value.bool false)) w'20) ∧ (b38 = true → I6 (IntKind.i64.wrap (n8 + 1)) w'20 ∧ M7 (IntKind.i64.wrap (n8 + 1)) w'20 < M7 n8 w'9))) ∧
 (n26 = n29 → I6 (IntKind.i64.wrap (n8 + 1)) w'20 ∧ M7 (IntKind.i64.wrap (n8 + 1)) w'20 < M7 n8 w'9))) ∧
 ((↑row_n : Int) ≤ n8 → R (Ending.returned (Value.bool true)) w'9))

set_option maxRecDepth 100000 in
theorem r5fits_eq (cols_p : Option Addr) (cols_n : Nat) (cols_c : Nat) (row_p : Option Addr) (row_n : Nat) (row_c : Nat) (w : World) (R : Ending → World → Prop) : r5fits_T cols_p cols_n cols_c row_p row_n row_c w R = vcFn Tryd.prog [] [(8, [2, 4, 6, 8, 10, 12, 14, 16, 18, 20, 22, 24, 26, 28, 30, 32, 34, 36, 38, 40, 42, 44, 46, 48, 50, 52, 54, 56, 58, 60, 62, 0])] Tryd.f13 [Value.slice cols_p cols_n cols_c, Value.slice row_p row_n row_c] w R := by kernel_rfl

set_option maxRecDepth 100000 in
theorem r5fits_vc (cols_p : Option Addr) (cols_n : Nat) (cols_c : Nat) (row_p : Option Addr) (row_n : Nat) (row_c : Nat) (w : World) (R : Ending → World → Prop) (h : r5fits_T cols_p cols_n cols_c row_p row_n row_c w R) : Calls Tryd.prog 13 #[Value.slice cols_p cols_n cols_c, Value.slice row_p row_n row_c] w R :=
  calls_of_vc (args := [Value.slice cols_p cols_n cols_c, Value.slice row_p row_n row_c]) [] [(8, [2, 4, 6, 8, 10, 12, 14, 16, 18, 20, 22, 24, 26, 28, 30, 32, 34, 36, 38, 40, 42, 44, 46, 48, 50, 52, 54, 56, 58, 60, 62, 0])] Tryd.mixed Tryd.func13 (cast (r5fits_eq _ _ _ _ _ _ w R) h)


end Go.Proofs.YtdephmdfdgclpaaDoor
