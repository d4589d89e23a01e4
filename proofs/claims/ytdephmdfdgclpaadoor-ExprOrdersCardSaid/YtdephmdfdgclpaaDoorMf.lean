/- Texts of the proof, one behind the other. -/
import Derived.Test.YtdephmdfdgclpaaDoorMe
import Derived.Lib.LaidTab
import Derived.Test.YtdephmdfdgclpaaDoorRows
set_option linter.unusedVariables false
set_option linter.unusedSimpArgs false
/- The verification conditions of the functions, evaluated: printed by program. -/
namespace Go.Proofs.YtdephmdfdgclpaaDoor
open Go Go.Vc

set_option maxRecDepth 100000 in
def lnum_T (n : Int) (w : World) (R : Ending → World → Prop) : Prop :=
  ∀ (b1 : Nat) (w'2 : World),
 New w
 (Obj.cells
 #[Value.int IntKind.i64 0, Value.string (ByteArray.mk #[]), Value.int IntKind.i64 0, Value.int IntKind.i64 0, Value.string (ByteArray.mk #[]), Value.slice none 0 0] 29)
 b1 w'2 →
 (∃ (u4 : Value), w'2.cell? (Addr.mk b1 0 none) = some u4) ∧
 w'2.frozen? (Addr.mk b1 0 none) = false ∧
 (∃ (u5 : Value), w'2.cell? (Addr.mk b1 1 none) = some u5) ∧
 w'2.frozen? (Addr.mk b1 1 none) = false ∧
 (∃ (u6 : Value), w'2.cell? (Addr.mk b1 2 none) = some u6) ∧
 w'2.frozen? (Addr.mk b1 2 none) = false ∧
 (∃ (u7 : Value), w'2.cell? (Addr.mk b1 3 none) = some u7) ∧
 w'2.frozen? (Addr.mk b1 3 none) = false ∧
 (∃ (u8 : Value), w'2.cell? (Addr.mk b1 4 none) = some u8) ∧
 w'2.frozen? (Addr.mk b1 4 none) = false ∧
 (∃ (u9 : Value), w'2.cell? (Addr.mk b1 5 none) = some u9) ∧
 w'2.frozen? (Addr.mk b1 5 none) = false ∧
 ∀ (w'10 : World),
 Put w'2 b1 0
 [Value.int IntKind.i64 2, Value.string (ByteArray.mk #[]), Value.int IntKind.i64 1, Value.int IntKind.i64 n, Value.string (ByteArray.mk #[]), Value.slice none 0 0] w'10 →
 ∃ (n12 : Int),
 w'10.cell? (Addr.mk b1 0 none) = some (Value.int IntKind.i64 n12) ∧
 ∃ (s13 : ByteArray),
 w'10.cell? (Addr.mk b1 1 none) = some (Value.string s13) ∧
 ∃ (n14 : Int),
 w'10.cell? (Addr.mk b1 2 none) = some (Value.int IntKind.i64 n14) ∧
 ∃ (n15 : Int),
 w'10.cell? (Addr.mk b1 3 none) = some (Value.int IntKind.i64 n15) ∧
 ∃ (s16 : ByteArray),
 w'10.cell? (Addr.mk b1 4 none) = some (Value.string s16) ∧
 ∃ (p17 : Option Addr),
 ∃ (n18 : Nat),
 ∃ (c19 : Nat),
 w'10.cell? (Addr.mk b1 5 none) = some (Value.slice p17 n18 c19) ∧
 R
 (Ending.returned
 (Value.agg #[Value.int IntKind.i64 n12, Value.string s13, Value.int IntKind.i64 n14, Value.int IntKind.i64 n15, Value.string s16, Value.slice p17 n18 c19]))
 w'10

set_option maxRecDepth 100000 in
theorem lnum_eq (n : Int) (w : World) (R : Ending → World → Prop) : lnum_T n w R = vcFn Tryd.prog [] [] Tryd.f25 [Value.int IntKind.i64 n] w R := by kernel_rfl

set_option maxRecDepth 100000 in
theorem lnum_vc (n : Int) (w : World) (R : Ending → World → Prop) (h : lnum_T n w R) : Calls Tryd.prog 25 #[Value.int IntKind.i64 n] w R :=
  calls_of_vc (args := [Value.int IntKind.i64 n]) [] [] Tryd.mixed Tryd.func25 (cast (lnum_eq _ w R) h)

set_option maxRecDepth 100000 in
def ltwo_T (op : Int) (a0 : Int) (a1 : ByteArray) (a2 : Int) (a3 : Int) (a4 : ByteArray) (a5_p : Option Addr) (a5_n : Nat) (a5_c : Nat) (b0 : Int) (b1 : ByteArray) (b2 : Int) (b3 : Int) (b4 : ByteArray) (b5_p : Option Addr) (b5_n : Nat) (b5_c : Nat) (w : World) (R : Ending → World → Prop) : Prop :=
  ∀ (b1_1 : Nat) (w'2 : World),
 New w (Obj.cells #[Value.int IntKind.i64 a0, Value.string a1, Value.int IntKind.i64 a2, Value.int IntKind.i64 a3, Value.string a4, Value.slice a5_p a5_n a5_c] 29) b1_1
 w'2 →
 ∀ (b4_1 : Nat) (w'5 : World),
 New w'2 (Obj.cells #[Value.int IntKind.i64 b0, Value.string b1, Value.int IntKind.i64 b2, Value.int IntKind.i64 b3, Value.string b4, Value.slice b5_p b5_n b5_c] 29) b4_1
 w'5 →
 ∀ (b7 : Nat) (w'8 : World),
 New w'5
 (Obj.cells
 #[Value.int IntKind.i64 0, Value.string (ByteArray.mk #[]), Value.int IntKind.i64 0, Value.int IntKind.i64 0, Value.string (ByteArray.mk #[]), Value.slice none 0 0] 29)
 b7 w'8 →
 ∃ (n10 : Int),
 w'8.cell? (Addr.mk b1_1 0 none) = some (Value.int IntKind.i64 n10) ∧
 ∃ (s11 : ByteArray),
 w'8.cell? (Addr.mk b1_1 1 none) = some (Value.string s11) ∧
 ∃ (n12 : Int),
 w'8.cell? (Addr.mk b1_1 2 none) = some (Value.int IntKind.i64 n12) ∧
 ∃ (n13 : Int),
 w'8.cell? (Addr.mk b1_1 3 none) = some (Value.int IntKind.i64 n13) ∧
 ∃ (s14 : ByteArray),
 w'8.cell? (Addr.mk b1_1 4 none) = some (Value.string s14) ∧
 ∃ (p15 : Option Addr),
 ∃ (n16 : Nat),
 ∃ (c17 : Nat),
 w'8.cell? (Addr.mk b1_1 5 none) = some (Value.slice p15 n16 c17) ∧
 ∃ (n18 : Int),
 w'8.cell? (Addr.mk b4_1 0 none) = some (Value.int IntKind.i64 n18) ∧
 ∃ (s19 : ByteArray),
 w'8.cell? (Addr.mk b4_1 1 none) = some (Value.string s19) ∧
 ∃ (n20 : Int),
 w'8.cell? (Addr.mk b4_1 2 none) = some (Value.int IntKind.i64 n20) ∧
 ∃ (n21 : Int),
 w'8.cell? (Addr.mk b4_1 3 none) = some (Value.int IntKind.i64 n21) ∧
 ∃ (s22 : ByteArray),
 w'8.cell? (Addr.mk b4_1 4 none) = some (Value.string s22) ∧
 ∃ (p23 : Option Addr),
 ∃ (n24 : Nat),
 ∃ (c25 : Nat),
 w'8.cell? (Addr.mk b4_1 5 none) = some (Value.slice p23 n24 c25) ∧
 ∀ (b26 : Nat) (w'27 : World),
 New w'8
 (Obj.cells
 #[Value.int IntKind.i64 n10, Value.string s11, Value.int IntKind.i64 n12, Value.int IntKind.i64 n13, Value.string s14, Value.slice p15 n16 c17, Value.int IntKind.i64 n18,
 Value.string s19, Value.int IntKind.i64 n20, Value.int IntKind.i64 n21, Value.string s22, Value.slice p23 n24 c25]
 29)
 b26 w'27 →
 (∃ (u29 : Value), w'27.cell? (Addr.mk b7 0 none) = some u29) ∧
 w'27.frozen? (Addr.mk b7 0 none) = false ∧
 (∃ (u30 : Value), w'27.cell? (Addr.mk b7 1 none) = some u30) ∧
 w'27.frozen? (Addr.mk b7 1 none) = false ∧
 (∃ (u31 : Value), w'27.cell? (Addr.mk b7 2 none) = some u31) ∧
 w'27.frozen? (Addr.mk b7 2 none) = false ∧
 (∃ (u32 : Value), w'27.cell? (Addr.mk b7 3 none) = some u32) ∧
 w'27.frozen? (Addr.mk b7 3 none) = false ∧
 (∃ (u33 : Value), w'27.cell? (Addr.mk b7 4 none) = some u33) ∧
 w'27.frozen? (Addr.mk b7 4 none) = false ∧
 (∃ (u34 : Value), w'27.cell? (Addr.mk b7 5 none) = some u34) ∧
 w'27.frozen? (Addr.mk b7 5 none) = false ∧
 ∀ (w'35 : World),
 Put w'27 b7 0
 [Value.int IntKind.i64 op, Value.string (ByteArray.mk #[]), Value.int IntKind.i64 0, Value.int IntKind.i64 0, Value.string (ByteArray.mk #[]),
 Value.slice (some (Addr.mk b26 0 none)) 2 2]
 w'35 →
 ∃ (n37 : Int),
 w'35.cell? (Addr.mk b7 0 none) = some (Value.int IntKind.i64 n37) ∧
 ∃ (s38 : ByteArray),
 w'35.cell? (Addr.mk b7 1 none) = some (Value.string s38) ∧
 ∃ (n39 : Int),
 w'35.cell? (Addr.mk b7 2 none) = some (Value.int IntKind.i64 n39) ∧
 ∃ (n40 : Int),
 w'35.cell? (Addr.mk b7 3 none) = some (Value.int IntKind.i64 n40) ∧
 ∃ (s41 : ByteArray),
 w'35.cell? (Addr.mk b7 4 none) = some (Value.string s41) ∧
 ∃ (p42 : Option Addr),
 ∃ (n43 : Nat),
 ∃ (c44 : Nat),
 w'35.cell? (Addr.mk b7 5 none) = some (Value.slice p42 n43 c44) ∧
 R
 (Ending.returned
 (Value.agg #[Value.int IntKind.i64 n37, Value.string s38, Value.int IntKind.i64 n39, Value.int IntKind.i64 n40, Value.string s41, Value.slice p42 n43 c44]))
 w'35

set_option maxRecDepth 100000 in
theorem ltwo_eq (op : Int) (a0 : Int) (a1 : ByteArray) (a2 : Int) (a3 : Int) (a4 : ByteArray) (a5_p : Option Addr) (a5_n : Nat) (a5_c : Nat) (b0 : Int) (b1 : ByteArray) (b2 : Int) (b3 : Int) (b4 : ByteArray) (b5_p : Option Addr) (b5_n : Nat) (b5_c : Nat) (w : World) (R : Ending → World → Prop) : ltwo_T op a0 a1 a2 a3 a4 a5_p a5_n a5_c b0 b1 b2 b3 b4 b5_p b5_n b5_c w R = vcFn Tryd.prog [] [] Tryd.f24 [Value.int IntKind.i64 op, Value.agg
 #[Value.int IntKind.i64 a0, Value.string a1, Value.int IntKind.i64 a2, Value.int IntKind.i64 a3, Value.string a4,
 Value.slice a5_p a5_n a5_c], Value.agg
 #[Value.int IntKind.i64 b0, Value.string b1, Value.int IntKind.i64 b2, Value.int IntKind.i64 b3, Value.string b4,
 Value.slice b5_p b5_n b5_c]] w R := by kernel_rfl

set_option maxRecDepth 100000 in
theorem ltwo_vc (op : Int) (a0 : Int) (a1 : ByteArray) (a2 : Int) (a3 : Int) (a4 : ByteArray) (a5_p : Option Addr) (a5_n : Nat) (a5_c : Nat) (b0 : Int) (b1 : ByteArray) (b2 : Int) (b3 : Int) (b4 : ByteArray) (b5_p : Option Addr) (b5_n : Nat) (b5_c : Nat) (w : World) (R : Ending → World → Prop) (h : ltwo_T op a0 a1 a2 a3 a4 a5_p a5_n a5_c b0 b1 b2 b3 b4 b5_p b5_n b5_c w R) : Calls Tryd.prog 24 #[Value.int IntKind.i64 op, Value.agg
 #[Value.int IntKind.i64 a0, Value.string a1, Value.int IntKind.i64 a2, Value.int IntKind.i64 a3, Value.string a4,
 Value.slice a5_p a5_n a5_c], Value.agg
 #[Value.int IntKind.i64 b0, Value.string b1, Value.int IntKind.i64 b2, Value.int IntKind.i64 b3, Value.string b4,
 Value.slice b5_p b5_n b5_c]] w R :=
  calls_of_vc (args := [Value.int IntKind.i64 op, Value.agg
 #[Value.int IntKind.i64 a0, Value.string a1, Value.int IntKind.i64 a2, Value.int IntKind.i64 a3, Value.string a4,
 Value.slice a5_p a5_n a5_c], Value.agg
 #[Value.int IntKind.i64 b0, Value.string b1, Value.int IntKind.i64 b2, Value.int IntKind.i64 b3, Value.string b4,
 Value.slice b5_p b5_n b5_c]]) [] [] Tryd.mixed Tryd.func24 (cast (ltwo_eq _ _ _ _ _ _ _ _ _ _ _ _ _ _ _ _ _ w R) h)

set_option maxRecDepth 100000 in
def lone_T (op : Int) (a0 : Int) (a1 : ByteArray) (a2 : Int) (a3 : Int) (a4 : ByteArray) (a5_p : Option Addr) (a5_n : Nat) (a5_c : Nat) (w : World) (R : Ending → World → Prop) : Prop :=
  ∀ (b1 : Nat) (w'2 : World),
 New w (Obj.cells #[Value.int IntKind.i64 a0, Value.string a1, Value.int IntKind.i64 a2, Value.int IntKind.i64 a3, Value.string a4, Value.slice a5_p a5_n a5_c] 29) b1
 w'2 →
 ∀ (b4 : Nat) (w'5 : World),
 New w'2
 (Obj.cells
 #[Value.int IntKind.i64 0, Value.string (ByteArray.mk #[]), Value.int IntKind.i64 0, Value.int IntKind.i64 0, Value.string (ByteArray.mk #[]), Value.slice none 0 0] 29)
 b4 w'5 →
 ∃ (n7 : Int),
 w'5.cell? (Addr.mk b1 0 none) = some (Value.int IntKind.i64 n7) ∧
 ∃ (s8 : ByteArray),
 w'5.cell? (Addr.mk b1 1 none) = some (Value.string s8) ∧
 ∃ (n9 : Int),
 w'5.cell? (Addr.mk b1 2 none) = some (Value.int IntKind.i64 n9) ∧
 ∃ (n10 : Int),
 w'5.cell? (Addr.mk b1 3 none) = some (Value.int IntKind.i64 n10) ∧
 ∃ (s11 : ByteArray),
 w'5.cell? (Addr.mk b1 4 none) = some (Value.string s11) ∧
 ∃ (p12 : Option Addr),
 ∃ (n13 : Nat),
 ∃ (c14 : Nat),
 w'5.cell? (Addr.mk b1 5 none) = some (Value.slice p12 n13 c14) ∧
 ∀ (b15 : Nat) (w'16 : World),
 New w'5 (Obj.cells #[Value.int IntKind.i64 n7, Value.string s8, Value.int IntKind.i64 n9, Value.int IntKind.i64 n10, Value.string s11, Value.slice p12 n13 c14] 29) b15
 w'16 →
 (∃ (u18 : Value), w'16.cell? (Addr.mk b4 0 none) = some u18) ∧
 w'16.frozen? (Addr.mk b4 0 none) = false ∧
 (∃ (u19 : Value), w'16.cell? (Addr.mk b4 1 none) = some u19) ∧
 w'16.frozen? (Addr.mk b4 1 none) = false ∧
 (∃ (u20 : Value), w'16.cell? (Addr.mk b4 2 none) = some u20) ∧
 w'16.frozen? (Addr.mk b4 2 none) = false ∧
 (∃ (u21 : Value), w'16.cell? (Addr.mk b4 3 none) = some u21) ∧
 w'16.frozen? (Addr.mk b4 3 none) = false ∧
 (∃ (u22 : Value), w'16.cell? (Addr.mk b4 4 none) = some u22) ∧
 w'16.frozen? (Addr.mk b4 4 none) = false ∧
 (∃ (u23 : Value), w'16.cell? (Addr.mk b4 5 none) = some u23) ∧
 w'16.frozen? (Addr.mk b4 5 none) = false ∧
 ∀ (w'24 : World),
 Put w'16 b4 0
 [Value.int IntKind.i64 op, Value.string (ByteArray.mk #[]), Value.int IntKind.i64 0, Value.int IntKind.i64 0, Value.string (ByteArray.mk #[]),
 Value.slice (some (Addr.mk b15 0 none)) 1 1]
 w'24 →
 ∃ (n26 : Int),
 w'24.cell? (Addr.mk b4 0 none) = some (Value.int IntKind.i64 n26) ∧
 ∃ (s27 : ByteArray),
 w'24.cell? (Addr.mk b4 1 none) = some (Value.string s27) ∧
 ∃ (n28 : Int),
 w'24.cell? (Addr.mk b4 2 none) = some (Value.int IntKind.i64 n28) ∧
 ∃ (n29 : Int),
 w'24.cell? (Addr.mk b4 3 none) = some (Value.int IntKind.i64 n29) ∧
 ∃ (s30 : ByteArray),
 w'24.cell? (Addr.mk b4 4 none) = some (Value.string s30) ∧
 ∃ (p31 : Option Addr),
 ∃ (n32 : Nat),
 ∃ (c33 : Nat),
 w'24.cell? (Addr.mk b4 5 none) = some (Value.slice p31 n32 c33) ∧
 R
 (Ending.returned
 (Value.agg #[Value.int IntKind.i64 n26, Value.string s27, Value.int IntKind.i64 n28, Value.int IntKind.i64 n29, Value.string s30, Value.slice p31 n32 c33]))
 w'24

set_option maxRecDepth 100000 in
theorem lone_eq (op : Int) (a0 : Int) (a1 : ByteArray) (a2 : Int) (a3 : Int) (a4 : ByteArray) (a5_p : Option Addr) (a5_n : Nat) (a5_c : Nat) (w : World) (R : Ending → World → Prop) : lone_T op a0 a1 a2 a3 a4 a5_p a5_n a5_c w R = vcFn Tryd.prog [] [] Tryd.f23 [Value.int IntKind.i64 op, Value.agg
 #[Value.int IntKind.i64 a0, Value.string a1, Value.int IntKind.i64 a2, Value.int IntKind.i64 a3, Value.string a4,
 Value.slice a5_p a5_n a5_c]] w R := by kernel_rfl

set_option maxRecDepth 100000 in
theorem lone_vc (op : Int) (a0 : Int) (a1 : ByteArray) (a2 : Int) (a3 : Int) (a4 : ByteArray) (a5_p : Option Addr) (a5_n : Nat) (a5_c : Nat) (w : World) (R : Ending → World → Prop) (h : lone_T op a0 a1 a2 a3 a4 a5_p a5_n a5_c w R) : Calls Tryd.prog 23 #[Value.int IntKind.i64 op, Value.agg
 #[Value.int IntKind.i64 a0, Value.string a1, Value.int IntKind.i64 a2, Value.int IntKind.i64 a3, Value.string a4,
 Value.slice a5_p a5_n a5_c]] w R :=
  calls_of_vc (args := [Value.int IntKind.i64 op, Value.agg
 #[Value.int IntKind.i64 a0, Value.string a1, Value.int IntKind.i64 a2, Value.int IntKind.i64 a3, Value.string a4,
 Value.slice a5_p a5_n a5_c]]) [] [] Tryd.mixed Tryd.func23 (cast (lone_eq _ _ _ _ _ _ _ _ _ w R) h)

set_option maxRecDepth 100000 in
def shown_T (w : World) (R : Ending → World → Prop) : Prop :=
  ∀ (b1 : Nat) (w'2 : World),
 New w (Obj.cells #[Value.string (ByteArray.mk #[98]), Value.int IntKind.i64 1, Value.bool false] 50) b1 w'2 →
 ∀ (b4 : Nat) (w'5 : World),
 New w'2 (Obj.cells #[Value.int IntKind.i64 1, Value.int IntKind.i64 3, Value.string (ByteArray.mk #[])] 26) b4 w'5 →
 Calls Tryd.prog 25 #[Value.int IntKind.i64 2] w'5 fun (e7 : Ending) (w8 : World) ↦
 ∃ (n9 : Int),
 ∃ (s10 : ByteArray),
 ∃ (n11 : Int),
 ∃ (n12 : Int),
 ∃ (s13 : ByteArray),
 ∃ (p14 : Option Addr),
 ∃ (n15 : Nat),
 ∃ (c16 : Nat),
 e7 =
 Ending.returned
 (Value.agg #[Value.int IntKind.i64 n9, Value.string s10, Value.int IntKind.i64 n11, Value.int IntKind.i64 n12, Value.string s13, Value.slice p14 n15 c16]) ∧
 Calls Tryd.prog 24
 #[Value.int IntKind.i64 5,
 Value.agg
 #[Value.int IntKind.i64 1, Value.string (ByteArray.mk #[98]), Value.int IntKind.i64 0, Value.int IntKind.i64 0, Value.string (ByteArray.mk #[]), Value.slice none 0 0],
 Value.agg #[Value.int IntKind.i64 n9, Value.string s10, Value.int IntKind.i64 n11, Value.int IntKind.i64 n12, Value.string s13, Value.slice p14 n15 c16]]
 w8 fun (e17 : Ending) (w18 : World) ↦
 ∃ (n19 : Int),
 ∃ (s20 : ByteArray),
 ∃ (n21 : Int),
 ∃ (n22 : Int),
 ∃ (s23 : ByteArray),
 ∃ (p24 : Option Addr),
 ∃ (n25 : Nat),
 ∃ (c26 : Nat),
 e17 =
 Ending.returned
 (Value.agg #[Value.int IntKind.i64 n19, Value.string s20, Value.int IntKind.i64 n21, Value.int IntKind.i64 n22, Value.string s23, Value.slice p24 n25 c26]) ∧
 Calls Tryd.prog 25 #[Value.int IntKind.i64 1] w18 fun (e27 : Ending) (w28 : World) ↦
 ∃ (n29 : Int),
 ∃ (s30 : ByteArray),
 ∃ (n31 : Int),
 ∃ (n32 : Int),
 ∃ (s33 : ByteArray),
 ∃ (p34 : Option Addr),
 ∃ (n35 : Nat),
 ∃ (c36 : Nat),
 e27 =
 Ending.returned
 (Value.agg #[Value.int IntKind.i64 n29, Value.string s30, Value.int IntKind.i64 n31, Value.int IntKind.i64 n32, Value.string s33, Value.slice p34 n35 c36]) ∧
 Calls Tryd.prog 24
 #[Value.int IntKind.i64 3,
 Value.agg #[Value.int IntKind.i64 n19, Value.string s20, Value.int IntKind.i64 n21, Value.int IntKind.i64 n22, Value.string s23, Value.slice p24 n25 c26],
 Value.agg #[Value.int IntKind.i64 n29, Value.string s30, Value.int IntKind.i64 n31, Value.int IntKind.i64 n32, Value.string s33, Value.slice p34 n35 c36]]
 w28 fun (e37 : Ending) (w38 : World) ↦
 ∃ (n39 : Int),
 ∃ (s40 : ByteArray),
 ∃ (n41 : Int),
 ∃ (n42 : Int),
 ∃ (s43 : ByteArray),
 ∃ (p44 : Option Addr),
 ∃ (n45 : Nat),
 ∃ (c46 : Nat),
 e37 =
 Ending.returned
 (Value.agg #[Value.int IntKind.i64 n39, Value.string s40, Value.int IntKind.i64 n41, Value.int IntKind.i64 n42, Value.string s43, Value.slice p44 n45 c46]) ∧
 Calls Tryd.prog 16
 #[Value.slice (some (Addr.mk b1 0 none)) 1 1, Value.slice (some (Addr.mk b4 0 none)) 1 1,
 Value.agg #[Value.int IntKind.i64 n39, Value.string s40, Value.int IntKind.i64 n41, Value.int IntKind.i64 n42, Value.string s43, Value.slice p44 n45 c46]]
 w38 fun (e47 : Ending) (w48 : World) ↦
 ∃ (n49 : Int),
 ∃ (n50 : Int),
 ∃ (s51 : ByteArray),
 ∃ (n52 : Int),
 e47 = Ending.returned (Value.tuple #[Value.agg #[Value.int IntKind.i64 n49, Value.int IntKind.i64 n50, Value.string s51], Value.int IntKind.i64 n52]) ∧
 ∀ (b53 : Nat) (w'54 : World),
 New w48 (Obj.cells #[Value.int IntKind.i64 0, Value.int IntKind.i64 0, Value.string (ByteArray.mk #[])] 26) b53 w'54 →
 (∃ (u56 : Value), w'54.cell? (Addr.mk b53 0 none) = some u56) ∧
 w'54.frozen? (Addr.mk b53 0 none) = false ∧
 (∃ (u57 : Value), w'54.cell? (Addr.mk b53 1 none) = some u57) ∧
 w'54.frozen? (Addr.mk b53 1 none) = false ∧
 (∃ (u58 : Value), w'54.cell? (Addr.mk b53 2 none) = some u58) ∧
 w'54.frozen? (Addr.mk b53 2 none) = false ∧
 ∀ (w'59 : World),
 Put w'54 b53 0 [Value.int IntKind.i64 n49, Value.int IntKind.i64 n50, Value.string s51] w'59 →
 (n52 = 0 →
 ∃ (n62 : Int),
 w'59.cell? (Addr.mk b53 0 none) = some (Value.int IntKind.i64 n62) ∧
 ∃ (n63 : Int),
 w'59.cell? (Addr.mk b53 1 none) = some (Value.int IntKind.i64 n63) ∧
 ∃ (s64 : ByteArray),
 w'59.cell? (Addr.mk b53 2 none) = some (Value.string s64) ∧
 R (Ending.returned (Value.bool (decide (n62 = Int.ofNat 1) && (decide (n63 = Int.ofNat 7) && sEq s64 (ByteArray.mk #[]))))) w'59) ∧
 (n52 ≠ 0 → R (Ending.returned (Value.bool false)) w'59)

set_option maxRecDepth 100000 in
theorem shown_eq (w : World) (R : Ending → World → Prop) : shown_T w R = vcFn Tryd.prog [] [] Tryd.f11 [] w R := by kernel_rfl

set_option maxRecDepth 100000 in
theorem shown_vc (w : World) (R : Ending → World → Prop) (h : shown_T w R) : Calls Tryd.prog 11 #[] w R :=
  calls_of_vc (args := []) [] [] Tryd.mixed Tryd.func11 (cast (shown_eq w R) h)

set_option maxRecDepth 100000 in
def lawTypes_T (cols_p : Option Addr) (cols_n : Nat) (cols_c : Nat) (x0 : Int) (x1 : ByteArray) (x2 : Int) (x3 : Int) (x4 : ByteArray) (x5_p : Option Addr) (x5_n : Nat) (x5_c : Nat) (w : World) (R : Ending → World → Prop) : Prop :=
  ∀ (b1 : Nat) (w'2 : World),
 New w (Obj.cells #[Value.int IntKind.i64 x0, Value.string x1, Value.int IntKind.i64 x2, Value.int IntKind.i64 x3, Value.string x4, Value.slice x5_p x5_n x5_c] 29) b1
 w'2 →
 Calls Tryd.prog 11 #[] w'2 fun (e4 : Ending) (w5 : World) ↦
 ∃ (b6 : Bool),
 e4 = Ending.returned (Value.bool b6) ∧
 ∃ (n7 : Int),
 w5.cell? (Addr.mk b1 0 none) = some (Value.int IntKind.i64 n7) ∧
 ∃ (s8 : ByteArray),
 w5.cell? (Addr.mk b1 1 none) = some (Value.string s8) ∧
 ∃ (n9 : Int),
 w5.cell? (Addr.mk b1 2 none) = some (Value.int IntKind.i64 n9) ∧
 ∃ (n10 : Int),
 w5.cell? (Addr.mk b1 3 none) = some (Value.int IntKind.i64 n10) ∧
 ∃ (s11 : ByteArray),
 w5.cell? (Addr.mk b1 4 none) = some (Value.string s11) ∧
 ∃ (p12 : Option Addr),
 ∃ (n13 : Nat),
 ∃ (c14 : Nat),
 w5.cell? (Addr.mk b1 5 none) = some (Value.slice p12 n13 c14) ∧
 Calls Tryd.prog 12
 #[Value.slice cols_p cols_n cols_c,
 Value.agg #[Value.int IntKind.i64 n7, Value.string s8, Value.int IntKind.i64 n9, Value.int IntKind.i64 n10, Value.string s11, Value.slice p12 n13 c14]]
 w5 fun (e15 : Ending) (w16 : World) ↦
 ∃ (n17 : Int),
 ∃ (n18 : Int),
 e15 = Ending.returned (Value.tuple #[Value.int IntKind.i64 n17, Value.int IntKind.i64 n18]) ∧
 ∃ (n19 : Int),
 w16.cell? (Addr.mk b1 0 none) = some (Value.int IntKind.i64 n19) ∧
 ∃ (s20 : ByteArray),
 w16.cell? (Addr.mk b1 1 none) = some (Value.string s20) ∧
 ∃ (n21 : Int),
 w16.cell? (Addr.mk b1 2 none) = some (Value.int IntKind.i64 n21) ∧
 ∃ (n22 : Int),
 w16.cell? (Addr.mk b1 3 none) = some (Value.int IntKind.i64 n22) ∧
 ∃ (s23 : ByteArray),
 w16.cell? (Addr.mk b1 4 none) = some (Value.string s23) ∧
 ∃ (p24 : Option Addr),
 ∃ (n25 : Nat),
 ∃ (c26 : Nat),
 w16.cell? (Addr.mk b1 5 none) = some (Value.slice p24 n25 c26) ∧
 Calls Tryd.prog 21
 #[Value.slice cols_p cols_n cols_c,
 Value.agg #[Value.int IntKind.i64 n19, Value.string s20, Value.int IntKind.i64 n21, Value.int IntKind.i64 n22, Value.string s23, Value.slice p24 n25 c26]]
 w16 fun (e27 : Ending) (w28 : World) ↦
 ∃ (n29 : Int),
 ∃ (n30 : Int),
 e27 = Ending.returned (Value.tuple #[Value.int IntKind.i64 n29, Value.int IntKind.i64 n30]) ∧
 R (Ending.returned (Value.bool (b6 && decide (n17 = n29) && decide (n18 = n30)))) w28

set_option maxRecDepth 100000 in
theorem lawTypes_eq (cols_p : Option Addr) (cols_n : Nat) (cols_c : Nat) (x0 : Int) (x1 : ByteArray) (x2 : Int) (x3 : Int) (x4 : ByteArray) (x5_p : Option Addr) (x5_n : Nat) (x5_c : Nat) (w : World) (R : Ending → World → Prop) : lawTypes_T cols_p cols_n cols_c x0 x1 x2 x3 x4 x5_p x5_n x5_c w R = vcFn Tryd.prog [] [] Tryd.f5 [Value.slice cols_p cols_n cols_c, Value.agg
 #[Value.int IntKind.i64 x0, Value.string x1, Value.int IntKind.i64 x2, Value.int IntKind.i64 x3, Value.string x4,
 Value.slice x5_p x5_n x5_c]] w R := by kernel_rfl

set_option maxRecDepth 100000 in
theorem lawTypes_vc (cols_p : Option Addr) (cols_n : Nat) (cols_c : Nat) (x0 : Int) (x1 : ByteArray) (x2 : Int) (x3 : Int) (x4 : ByteArray) (x5_p : Option Addr) (x5_n : Nat) (x5_c : Nat) (w : World) (R : Ending → World → Prop) (h : lawTypes_T cols_p cols_n cols_c x0 x1 x2 x3 x4 x5_p x5_n x5_c w R) : Calls Tryd.prog 5 #[Value.slice cols_p cols_n cols_c, Value.agg
 #[Value.int IntKind.i64 x0, Value.string x1, Value.int IntKind.i64 x2, Value.int IntKind.i64 x3, Value.string x4,
 Value.slice x5_p x5_n x5_c]] w R :=
  calls_of_vc (args := [Value.slice cols_p cols_n cols_c, Value.agg
 #[Value.int IntKind.i64 x0, Value.string x1, Value.int IntKind.i64 x2, Value.int IntKind.i64 x3, Value.string x4,
 Value.slice x5_p x5_n x5_c]]) [] [] Tryd.mixed Tryd.func5 (cast (lawTypes_eq _ _ _ _ _ _ _ _ _ _ _ w R) h)

set_option maxRecDepth 100000 in
def lawEvals_T (cols_p : Option Addr) (cols_n : Nat) (cols_c : Nat) (row_p : Option Addr) (row_n : Nat) (row_c : Nat) (x0 : Int) (x1 : ByteArray) (x2 : Int) (x3 : Int) (x4 : ByteArray) (x5_p : Option Addr) (x5_n : Nat) (x5_c : Nat) (w : World) (R : Ending → World → Prop) : Prop :=
  ∀ (b1 : Nat) (w'2 : World),
 New w (Obj.cells #[Value.int IntKind.i64 x0, Value.string x1, Value.int IntKind.i64 x2, Value.int IntKind.i64 x3, Value.string x4, Value.slice x5_p x5_n x5_c] 29) b1
 w'2 →
 Calls Tryd.prog 11 #[] w'2 fun (e4 : Ending) (w5 : World) ↦
 ∃ (b6 : Bool),
 e4 = Ending.returned (Value.bool b6) ∧
 ∃ (n7 : Int),
 w5.cell? (Addr.mk b1 0 none) = some (Value.int IntKind.i64 n7) ∧
 ∃ (s8 : ByteArray),
 w5.cell? (Addr.mk b1 1 none) = some (Value.string s8) ∧
 ∃ (n9 : Int),
 w5.cell? (Addr.mk b1 2 none) = some (Value.int IntKind.i64 n9) ∧
 ∃ (n10 : Int),
 w5.cell? (Addr.mk b1 3 none) = some (Value.int IntKind.i64 n10) ∧
 ∃ (s11 : ByteArray),
 w5.cell? (Addr.mk b1 4 none) = some (Value.string s11) ∧
 ∃ (p12 : Option Addr),
 ∃ (n13 : Nat),
 ∃ (c14 : Nat),
 w5.cell? (Addr.mk b1 5 none) = some (Value.slice p12 n13 c14) ∧
 Calls Tryd.prog 16
 #[Value.slice cols_p cols_n cols_c, Value.slice row_p row_n row_c,
 Value.agg #[Value.int IntKind.i64 n7, Value.string s8, Value.int IntKind.i64 n9, Value.int IntKind.i64 n10, Value.string s11, Value.slice p12 n13 c14]]
 w5 fun (e15 : Ending) (w16 : World) ↦
 ∃ (n17 : Int),
 ∃ (n18 : Int),
 ∃ (s19 : ByteArray),
 ∃ (n20 : Int),
 e15 = Ending.returned (Value.tuple #[Value.agg #[Value.int IntKind.i64 n17, Value.int IntKind.i64 n18, Value.string s19], Value.int IntKind.i64 n20]) ∧
 ∀ (b21 : Nat) (w'22 : World),
 New w16 (Obj.cells #[Value.int IntKind.i64 0, Value.int IntKind.i64 0, Value.string (ByteArray.mk #[])] 26) b21 w'22 →
 (∃ (u24 : Value), w'22.cell? (Addr.mk b21 0 none) = some u24) ∧
 w'22.frozen? (Addr.mk b21 0 none) = false ∧
 (∃ (u25 : Value), w'22.cell? (Addr.mk b21 1 none) = some u25) ∧
 w'22.frozen? (Addr.mk b21 1 none) = false ∧
 (∃ (u26 : Value), w'22.cell? (Addr.mk b21 2 none) = some u26) ∧
 w'22.frozen? (Addr.mk b21 2 none) = false ∧
 ∀ (w'27 : World),
 Put w'22 b21 0 [Value.int IntKind.i64 n17, Value.int IntKind.i64 n18, Value.string s19] w'27 →
 ∃ (n29 : Int),
 w'27.cell? (Addr.mk b1 0 none) = some (Value.int IntKind.i64 n29) ∧
 ∃ (s30 : ByteArray),
 w'27.cell? (Addr.mk b1 1 none) = some (Value.string s30) ∧
 ∃ (n31 : Int),
 w'27.cell? (Addr.mk b1 2 none) = some (Value.int IntKind.i64 n31) ∧
 ∃ (n32 : Int),
 w'27.cell? (Addr.mk b1 3 none) = some (Value.int IntKind.i64 n32) ∧
 ∃ (s33 : ByteArray),
 w'27.cell? (Addr.mk b1 4 none) = some (Value.string s33) ∧
 ∃ (p34 : Option Addr),
 ∃ (n35 : Nat),
 ∃ (c36 : Nat),
 w'27.cell? (Addr.mk b1 5 none) = some (Value.slice p34 n35 c36) ∧
 Calls Tryd.prog 22
 #[Value.slice cols_p cols_n cols_c, Value.slice row_p row_n row_c,
 Value.agg #[Value.int IntKind.i64 n29, Value.string s30, Value.int IntKind.i64 n31, Value.int IntKind.i64 n32, Value.string s33, Value.slice p34 n35 c36]]
 w'27 fun (e37 : Ending) (w38 : World) ↦
 ∃ (n39 : Int),
 ∃ (n40 : Int),
 ∃ (s41 : ByteArray),
 ∃ (n42 : Int),
 e37 = Ending.returned (Value.tuple #[Value.agg #[Value.int IntKind.i64 n39, Value.int IntKind.i64 n40, Value.string s41], Value.int IntKind.i64 n42]) ∧
 ∀ (b43 : Nat) (w'44 : World),
 New w38 (Obj.cells #[Value.int IntKind.i64 0, Value.int IntKind.i64 0, Value.string (ByteArray.mk #[])] 26) b43 w'44 →
 (∃ (u46 : Value), w'44.cell? (Addr.mk b43 0 none) = some u46) ∧
 w'44.frozen? (Addr.mk b43 0 none) = false ∧
 (∃ (u47 : Value), w'44.cell? (Addr.mk b43 1 none) = some u47) ∧
 w'44.frozen? (Addr.mk b43 1 none) = false ∧
 (∃ (u48 : Value), w'44.cell? (Addr.mk b43 2 none) = some u48) ∧
 w'44.frozen? (Addr.mk b43 2 none) = false ∧
 ∀ (w'49 : World),
 Put w'44 b43 0 [Value.int IntKind.i64 n39, Value.int IntKind.i64 n40, Value.string s41] w'49 →
 (b6 = true →
 ∃ (n52 : Int),
 w'49.cell? (Addr.mk b21 0 none) = some (Value.int IntKind.i64 n52) ∧
 ∃ (n53 : Int),
 w'49.cell? (Addr.mk b21 1 none) = some (Value.int IntKind.i64 n53) ∧
 ∃ (s54 : ByteArray),
 w'49.cell? (Addr.mk b21 2 none) = some (Value.string s54) ∧
 ∃ (n55 : Int),
 w'49.cell? (Addr.mk b43 0 none) = some (Value.int IntKind.i64 n55) ∧
 ∃ (n56 : Int),
 w'49.cell? (Addr.mk b43 1 none) = some (Value.int IntKind.i64 n56) ∧
 ∃ (s57 : ByteArray),
 w'49.cell? (Addr.mk b43 2 none) = some (Value.string s57) ∧
 R (Ending.returned (Value.bool (decide (n52 = n55) && (decide (n53 = n56) && sEq s54 s57) && decide (n20 = n42)))) w'49) ∧
 (b6 = false → R (Ending.returned (Value.bool false)) w'49)

set_option maxRecDepth 100000 in
theorem lawEvals_eq (cols_p : Option Addr) (cols_n : Nat) (cols_c : Nat) (row_p : Option Addr) (row_n : Nat) (row_c : Nat) (x0 : Int) (x1 : ByteArray) (x2 : Int) (x3 : Int) (x4 : ByteArray) (x5_p : Option Addr) (x5_n : Nat) (x5_c : Nat) (w : World) (R : Ending → World → Prop) : lawEvals_T cols_p cols_n cols_c row_p row_n row_c x0 x1 x2 x3 x4 x5_p x5_n x5_c w R = vcFn Tryd.prog [] [] Tryd.f6 [Value.slice cols_p cols_n cols_c, Value.slice row_p row_n row_c, Value.agg
 #[Value.int IntKind.i64 x0, Value.string x1, Value.int IntKind.i64 x2, Value.int IntKind.i64 x3, Value.string x4,
 Value.slice x5_p x5_n x5_c]] w R := by kernel_rfl

set_option maxRecDepth 100000 in
theorem lawEvals_vc (cols_p : Option Addr) (cols_n : Nat) (cols_c : Nat) (row_p : Option Addr) (row_n : Nat) (row_c : Nat) (x0 : Int) (x1 : ByteArray) (x2 : Int) (x3 : Int) (x4 : ByteArray) (x5_p : Option Addr) (x5_n : Nat) (x5_c : Nat) (w : World) (R : Ending → World → Prop) (h : lawEvals_T cols_p cols_n cols_c row_p row_n row_c x0 x1 x2 x3 x4 x5_p x5_n x5_c w R) : Calls Tryd.prog 6 #[Value.slice cols_p cols_n cols_c, Value.slice row_p row_n row_c, Value.agg
 #[Value.int IntKind.i64 x0, Value.string x1, Value.int IntKind.i64 x2, Value.int IntKind.i64 x3, Value.string x4,
 Value.slice x5_p x5_n x5_c]] w R :=
  calls_of_vc (args := [Value.slice cols_p cols_n cols_c, Value.slice row_p row_n row_c, Value.agg
 #[Value.int IntKind.i64 x0, Value.string x1, Value.int IntKind.i64 x2, Value.int IntKind.i64 x3, Value.string x4,
 Value.slice x5_p x5_n x5_c]]) [] [] Tryd.mixed Tryd.func6 (cast (lawEvals_eq _ _ _ _ _ _ _ _ _ _ _ _ _ _ w R) h)

set_option maxRecDepth 100000 in
def lawKinds_T (cols_p : Option Addr) (cols_n : Nat) (cols_c : Nat) (row_p : Option Addr) (row_n : Nat) (row_c : Nat) (x0 : Int) (x1 : ByteArray) (x2 : Int) (x3 : Int) (x4 : ByteArray) (x5_p : Option Addr) (x5_n : Nat) (x5_c : Nat) (w : World) (R : Ending → World → Prop) : Prop :=
  ∀ (b1 : Nat) (w'2 : World),
 New w (Obj.cells #[Value.int IntKind.i64 x0, Value.string x1, Value.int IntKind.i64 x2, Value.int IntKind.i64 x3, Value.string x4, Value.slice x5_p x5_n x5_c] 29) b1
 w'2 →
 Calls Tryd.prog 11 #[] w'2 fun (e4 : Ending) (w5 : World) ↦
 ∃ (b6 : Bool),
 e4 = Ending.returned (Value.bool b6) ∧
 ∃ (n7 : Int),
 w5.cell? (Addr.mk b1 0 none) = some (Value.int IntKind.i64 n7) ∧
 ∃ (s8 : ByteArray),
 w5.cell? (Addr.mk b1 1 none) = some (Value.string s8) ∧
 ∃ (n9 : Int),
 w5.cell? (Addr.mk b1 2 none) = some (Value.int IntKind.i64 n9) ∧
 ∃ (n10 : Int),
 w5.cell? (Addr.mk b1 3 none) = some (Value.int IntKind.i64 n10) ∧
 ∃ (s11 : ByteArray),
 w5.cell? (Addr.mk b1 4 none) = some (Value.string s11) ∧
 ∃ (p12 : Option Addr),
 ∃ (n13 : Nat),
 ∃ (c14 : Nat),
 w5.cell? (Addr.mk b1 5 none) = some (Value.slice p12 n13 c14) ∧
 Calls Tryd.prog 12
 #[Value.slice cols_p cols_n cols_c,
 Value.agg #[Value.int IntKind.i64 n7, Value.string s8, Value.int IntKind.i64 n9, Value.int IntKind.i64 n10, Value.string s11, Value.slice p12 n13 c14]]
 w5 fun (e15 : Ending) (w16 : World) ↦
 ∃ (n17 : Int),
 ∃ (n18 : Int),
 e15 = Ending.returned (Value.tuple #[Value.int IntKind.i64 n17, Value.int IntKind.i64 n18]) ∧
 ∃ (n19 : Int),
 w16.cell? (Addr.mk b1 0 none) = some (Value.int IntKind.i64 n19) ∧
 ∃ (s20 : ByteArray),
 w16.cell? (Addr.mk b1 1 none) = some (Value.string s20) ∧
 ∃ (n21 : Int),
 w16.cell? (Addr.mk b1 2 none) = some (Value.int IntKind.i64 n21) ∧
 ∃ (n22 : Int),
 w16.cell? (Addr.mk b1 3 none) = some (Value.int IntKind.i64 n22) ∧
 ∃ (s23 : ByteArray),
 w16.cell? (Addr.mk b1 4 none) = some (Value.string s23) ∧
 ∃ (p24 : Option Addr),
 ∃ (n25 : Nat),
 ∃ (c26 : Nat),
 w16.cell? (Addr.mk b1 5 none) = some (Value.slice p24 n25 c26) ∧
 Calls Tryd.prog 16
 #[Value.slice cols_p cols_n cols_c, Value.slice row_p row_n row_c,
 Value.agg #[Value.int IntKind.i64 n19, Value.string s20, Value.int IntKind.i64 n21, Value.int IntKind.i64 n22, Value.string s23, Value.slice p24 n25 c26]]
 w16 fun (e27 : Ending) (w28 : World) ↦
 ∃ (n29 : Int),
 ∃ (n30 : Int),
 ∃ (s31 : ByteArray),
 ∃ (n32 : Int),
 e27 = Ending.returned (Value.tuple #[Value.agg #[Value.int IntKind.i64 n29, Value.int IntKind.i64 n30, Value.string s31], Value.int IntKind.i64 n32]) ∧
 ∀ (b33 : Nat) (w'34 : World),
 New w28 (Obj.cells #[Value.int IntKind.i64 0, Value.int IntKind.i64 0, Value.string (ByteArray.mk #[])] 26) b33 w'34 →
 (∃ (u36 : Value), w'34.cell? (Addr.mk b33 0 none) = some u36) ∧
 w'34.frozen? (Addr.mk b33 0 none) = false ∧
 (∃ (u37 : Value), w'34.cell? (Addr.mk b33 1 none) = some u37) ∧
 w'34.frozen? (Addr.mk b33 1 none) = false ∧
 (∃ (u38 : Value), w'34.cell? (Addr.mk b33 2 none) = some u38) ∧
 w'34.frozen? (Addr.mk b33 2 none) = false ∧
 ∀ (w'39 : World),
 Put w'34 b33 0 [Value.int IntKind.i64 n29, Value.int IntKind.i64 n30, Value.string s31] w'39 →
 Calls Tryd.prog 13 #[Value.slice cols_p cols_n cols_c, Value.slice row_p row_n row_c] w'39 fun (e41 : Ending) (w42 : World) ↦
 ∃ (b43 : Bool),
 e41 = Ending.returned (Value.bool b43) ∧
 (n18 ≠ 0 ∨ b43 = false →
 (b6 = true ∧ n32 ≠ 0 →
 ∃ (n46 : Int),
 w42.cell? (Addr.mk b33 0 none) = some (Value.int IntKind.i64 n46) ∧
 ∃ (n47 : Int),
 w42.cell? (Addr.mk b33 1 none) = some (Value.int IntKind.i64 n47) ∧
 ∃ (s48 : ByteArray),
 w42.cell? (Addr.mk b33 2 none) = some (Value.string s48) ∧
 (n46 = 0 ∧ n47 = 0 ∧ s48 = ByteArray.mk #[] → R (Ending.returned (Value.bool (decide (n18 = 0) || decide (n32 = n18)))) w42) ∧
 (n46 ≠ 0 ∨ n47 ≠ 0 ∨ s48 ≠ ByteArray.mk #[] → R (Ending.returned (Value.bool false)) w42)) ∧
 (b6 = false ∨ n32 = 0 → R (Ending.returned (Value.bool false)) w42)) ∧
 (n18 = 0 ∧ b43 = true →
 (n32 ≠ 0 →
 (b6 = true →
 (n32 = 100 ∨ n32 = 101 →
 ∃ (n56 : Int),
 w42.cell? (Addr.mk b33 0 none) = some (Value.int IntKind.i64 n56) ∧
 ∃ (n57 : Int),
 w42.cell? (Addr.mk b33 1 none) = some (Value.int IntKind.i64 n57) ∧
 ∃ (s58 : ByteArray),
 w42.cell? (Addr.mk b33 2 none) = some (Value.string s58) ∧
 R (Ending.returned (Value.bool (decide (n56 = Int.ofNat 0) && (decide (n57 = Int.ofNat 0) && sEq s58 (ByteArray.mk #[]))))) w42) ∧
 (n32 ≠ 100 ∧ n32 ≠ 101 → R (Ending.returned (Value.bool false)) w42)) ∧
 (b6 = false → R (Ending.returned (Value.bool false)) w42)) ∧
 (n32 = 0 →
 (b6 = true →
 ∃ (n63 : Int),
 w42.cell? (Addr.mk b33 0 none) = some (Value.int IntKind.i64 n63) ∧
 (n63 = 0 → R (Ending.returned (Value.bool true)) w42) ∧
 (n63 ≠ 0 → ∃ (n66 : Int), w42.cell? (Addr.mk b33 0 none) = some (Value.int IntKind.i64 n66) ∧ R (Ending.returned (Value.bool (decide (n66 = n17)))) w42)) ∧
 (b6 = false → R (Ending.returned (Value.bool false)) w42)))

set_option maxRecDepth 100000 in
theorem lawKinds_eq (cols_p : Option Addr) (cols_n : Nat) (cols_c : Nat) (row_p : Option Addr) (row_n : Nat) (row_c : Nat) (x0 : Int) (x1 : ByteArray) (x2 : Int) (x3 : Int) (x4 : ByteArray) (x5_p : Option Addr) (x5_n : Nat) (x5_c : Nat) (w : World) (R : Ending → World → Prop) : lawKinds_T cols_p cols_n cols_c row_p row_n row_c x0 x1 x2 x3 x4 x5_p x5_n x5_c w R = vcFn Tryd.prog [] [] Tryd.f7 [Value.slice cols_p cols_n cols_c, Value.slice row_p row_n row_c, Value.agg
 #[Value.int IntKind.i64 x0, Value.string x1, Value.int IntKind.i64 x2, Value.int IntKind.i64 x3, Value.string x4,
 Value.slice x5_p x5_n x5_c]] w R := by kernel_rfl

set_option maxRecDepth 100000 in
theorem lawKinds_vc (cols_p : Option Addr) (cols_n : Nat) (cols_c : Nat) (row_p : Option Addr) (row_n : Nat) (row_c : Nat) (x0 : Int) (x1 : ByteArray) (x2 : Int) (x3 : Int) (x4 : ByteArray) (x5_p : Option Addr) (x5_n : Nat) (x5_c : Nat) (w : World) (R : Ending → World → Prop) (h : lawKinds_T cols_p cols_n cols_c row_p row_n row_c x0 x1 x2 x3 x4 x5_p x5_n x5_c w R) : Calls Tryd.prog 7 #[Value.slice cols_p cols_n cols_c, Value.slice row_p row_n row_c, Value.agg
 #[Value.int IntKind.i64 x0, Value.string x1, Value.int IntKind.i64 x2, Value.int IntKind.i64 x3, Value.string x4,
 Value.slice x5_p x5_n x5_c]] w R :=
  calls_of_vc (args := [Value.slice cols_p cols_n cols_c, Value.slice row_p row_n row_c, Value.agg
 #[Value.int IntKind.i64 x0, Value.string x1, Value.int IntKind.i64 x2, Value.int IntKind.i64 x3, Value.string x4,
 Value.slice x5_p x5_n x5_c]]) [] [] Tryd.mixed Tryd.func7 (cast (lawKinds_eq _ _ _ _ _ _ _ _ _ _ _ _ _ _ w R) h)

set_option maxRecDepth 100000 in
def lawTurns_T (cols_p : Option Addr) (cols_n : Nat) (cols_c : Nat) (row_p : Option Addr) (row_n : Nat) (row_c : Nat) (a0 : Int) (a1 : ByteArray) (a2 : Int) (a3 : Int) (a4 : ByteArray) (a5_p : Option Addr) (a5_n : Nat) (a5_c : Nat) (b0 : Int) (b1 : ByteArray) (b2 : Int) (b3 : Int) (b4 : ByteArray) (b5_p : Option Addr) (b5_n : Nat) (b5_c : Nat) (w : World) (R : Ending → World → Prop) : Prop :=
  ∀ (b1_1 : Nat) (w'2 : World),
 New w (Obj.cells #[Value.int IntKind.i64 a0, Value.string a1, Value.int IntKind.i64 a2, Value.int IntKind.i64 a3, Value.string a4, Value.slice a5_p a5_n a5_c] 29) b1_1
 w'2 →
 ∀ (b4_1 : Nat) (w'5 : World),
 New w'2 (Obj.cells #[Value.int IntKind.i64 b0, Value.string b1, Value.int IntKind.i64 b2, Value.int IntKind.i64 b3, Value.string b4, Value.slice b5_p b5_n b5_c] 29) b4_1
 w'5 →
 Calls Tryd.prog 11 #[] w'5 fun (e7 : Ending) (w8 : World) ↦
 ∃ (b9 : Bool),
 e7 = Ending.returned (Value.bool b9) ∧
 ∃ (n10 : Int),
 w8.cell? (Addr.mk b1_1 0 none) = some (Value.int IntKind.i64 n10) ∧
 ∃ (s11 : ByteArray),
 w8.cell? (Addr.mk b1_1 1 none) = some (Value.string s11) ∧
 ∃ (n12 : Int),
 w8.cell? (Addr.mk b1_1 2 none) = some (Value.int IntKind.i64 n12) ∧
 ∃ (n13 : Int),
 w8.cell? (Addr.mk b1_1 3 none) = some (Value.int IntKind.i64 n13) ∧
 ∃ (s14 : ByteArray),
 w8.cell? (Addr.mk b1_1 4 none) = some (Value.string s14) ∧
 ∃ (p15 : Option Addr),
 ∃ (n16 : Nat),
 ∃ (c17 : Nat),
 w8.cell? (Addr.mk b1_1 5 none) = some (Value.slice p15 n16 c17) ∧
 ∃ (n18 : Int),
 w8.cell? (Addr.mk b4_1 0 none) = some (Value.int IntKind.i64 n18) ∧
 ∃ (s19 : ByteArray),
 w8.cell? (Addr.mk b4_1 1 none) = some (Value.string s19) ∧
 ∃ (n20 : Int),
 w8.cell? (Addr.mk b4_1 2 none) = some (Value.int IntKind.i64 n20) ∧
 ∃ (n21 : Int),
 w8.cell? (Addr.mk b4_1 3 none) = some (Value.int IntKind.i64 n21) ∧
 ∃ (s22 : ByteArray),
 w8.cell? (Addr.mk b4_1 4 none) = some (Value.string s22) ∧
 ∃ (p23 : Option Addr),
 ∃ (n24 : Nat),
 ∃ (c25 : Nat),
 w8.cell? (Addr.mk b4_1 5 none) = some (Value.slice p23 n24 c25) ∧
 Calls Tryd.prog 24
 #[Value.int IntKind.i64 12,
 Value.agg #[Value.int IntKind.i64 n10, Value.string s11, Value.int IntKind.i64 n12, Value.int IntKind.i64 n13, Value.string s14, Value.slice p15 n16 c17],
 Value.agg #[Value.int IntKind.i64 n18, Value.string s19, Value.int IntKind.i64 n20, Value.int IntKind.i64 n21, Value.string s22, Value.slice p23 n24 c25]]
 w8 fun (e26 : Ending) (w27 : World) ↦
 ∃ (n28 : Int),
 ∃ (s29 : ByteArray),
 ∃ (n30 : Int),
 ∃ (n31 : Int),
 ∃ (s32 : ByteArray),
 ∃ (p33 : Option Addr),
 ∃ (n34 : Nat),
 ∃ (c35 : Nat),
 e26 =
 Ending.returned
 (Value.agg #[Value.int IntKind.i64 n28, Value.string s29, Value.int IntKind.i64 n30, Value.int IntKind.i64 n31, Value.string s32, Value.slice p33 n34 c35]) ∧
 Calls Tryd.prog 23
 #[Value.int IntKind.i64 14,
 Value.agg #[Value.int IntKind.i64 n28, Value.string s29, Value.int IntKind.i64 n30, Value.int IntKind.i64 n31, Value.string s32, Value.slice p33 n34 c35]]
 w27 fun (e36 : Ending) (w37 : World) ↦
 ∃ (n38 : Int),
 ∃ (s39 : ByteArray),
 ∃ (n40 : Int),
 ∃ (n41 : Int),
 ∃ (s42 : ByteArray),
 ∃ (p43 : Option Addr),
 ∃ (n44 : Nat),
 ∃ (c45 : Nat),
 e36 =
 Ending.returned
 (Value.agg #[Value.int IntKind.i64 n38, Value.string s39, Value.int IntKind.i64 n40, Value.int IntKind.i64 n41, Value.string s42, Value.slice p43 n44 c45]) ∧
 Calls Tryd.prog 16
 #[Value.slice cols_p cols_n cols_c, Value.slice row_p row_n row_c,
 Value.agg #[Value.int IntKind.i64 n38, Value.string s39, Value.int IntKind.i64 n40, Value.int IntKind.i64 n41, Value.string s42, Value.slice p43 n44 c45]]
 w37 fun (e46 : Ending) (w47 : World) ↦
 ∃ (n48 : Int),
 ∃ (n49 : Int),
 ∃ (s50 : ByteArray),
 ∃ (n51 : Int),
 e46 = Ending.returned (Value.tuple #[Value.agg #[Value.int IntKind.i64 n48, Value.int IntKind.i64 n49, Value.string s50], Value.int IntKind.i64 n51]) ∧
 ∀ (b52 : Nat) (w'53 : World),
 New w47 (Obj.cells #[Value.int IntKind.i64 0, Value.int IntKind.i64 0, Value.string (ByteArray.mk #[])] 26) b52 w'53 →
 (∃ (u55 : Value), w'53.cell? (Addr.mk b52 0 none) = some u55) ∧
 w'53.frozen? (Addr.mk b52 0 none) = false ∧
 (∃ (u56 : Value), w'53.cell? (Addr.mk b52 1 none) = some u56) ∧
 w'53.frozen? (Addr.mk b52 1 none) = false ∧
 (∃ (u57 : Value), w'53.cell? (Addr.mk b52 2 none) = some u57) ∧
 w'53.frozen? (Addr.mk b52 2 none) = false ∧
 ∀ (w'58 : World),
 Put w'53 b52 0 [Value.int IntKind.i64 n48, Value.int IntKind.i64 n49, Value.string s50] w'58 →
 ∀ (w'60 : World),
 Drew w'58 w'60 →
 ∃ (n62 : Int),
 w'60.cell? (Addr.mk b1_1 0 none) = some (Value.int IntKind.i64 n62) ∧
 ∃ (s63 : ByteArray),
 w'60.cell? (Addr.mk b1_1 1 none) = some (Value.string s63) ∧
 ∃ (n64 : Int),
 w'60.cell? (Addr.mk b1_1 2 none) = some (Value.int IntKind.i64 n64) ∧
 ∃ (n65 : Int),
 w'60.cell? (Addr.mk b1_1 3 none) = some (Value.int IntKind.i64 n65) ∧
 ∃ (s66 : ByteArray),
 w'60.cell? (Addr.mk b1_1 4 none) = some (Value.string s66) ∧
 ∃ (p67 : Option Addr),
 ∃ (n68 : Nat),
 ∃ (c69 : Nat),
 w'60.cell? (Addr.mk b1_1 5 none) = some (Value.slice p67 n68 c69) ∧
 ∃ (n70 : Int),
 w'60.cell? (Addr.mk b4_1 0 none) = some (Value.int IntKind.i64 n70) ∧
 ∃ (s71 : ByteArray),
 w'60.cell? (Addr.mk b4_1 1 none) = some (Value.string s71) ∧
 ∃ (n72 : Int),
 w'60.cell? (Addr.mk b4_1 2 none) = some (Value.int IntKind.i64 n72) ∧
 ∃ (n73 : Int),
 w'60.cell? (Addr.mk b4_1 3 none) = some (Value.int IntKind.i64 n73) ∧
 ∃ (s74 : ByteArray),
 w'60.cell? (Addr.mk b4_1 4 none) = some (Value.string s74) ∧
 ∃ (p75 : Option Addr),
 ∃ (n76 : Nat),
 ∃ (c77 : Nat),
 w'60.cell? (Addr.mk b4_1 5 none) = some (Value.slice p75 n76 c77) ∧
 (Calls Tryd.prog 23
 #[Value.int IntKind.i64 14,
 Value.agg #[Value.int IntKind.i64 n62, Value.string s63, Value.int IntKind.i64 n64, Value.int IntKind.i64 n65, Value.string s66, Value.slice p67 n68 c69]]
 w'60 fun (e78 : Ending) (w79 : World) ↦
 ∃ (n80 : Int),
 ∃ (s81 : ByteArray),
 ∃ (n82 : Int),
 ∃ (n83 : Int),
 ∃ (s84 : ByteArray),
 ∃ (p85 : Option Addr),
 ∃ (n86 : Nat),
 ∃ (c87 : Nat),
 e78 =
 Ending.returned
 (Value.agg #[Value.int IntKind.i64 n80, Value.string s81, Value.int IntKind.i64 n82, Value.int IntKind.i64 n83, Value.string s84, Value.slice p85 n86 c87]) ∧
 Same w'60 w79 ∧
 (Calls Tryd.prog 23
 #[Value.int IntKind.i64 14,
 Value.agg #[Value.int IntKind.i64 n70, Value.string s71, Value.int IntKind.i64 n72, Value.int IntKind.i64 n73, Value.string s74, Value.slice p75 n76 c77]]
 w79 fun (e88 : Ending) (w89 : World) ↦
 ∃ (n90 : Int),
 ∃ (s91 : ByteArray),
 ∃ (n92 : Int),
 ∃ (n93 : Int),
 ∃ (s94 : ByteArray),
 ∃ (p95 : Option Addr),
 ∃ (n96 : Nat),
 ∃ (c97 : Nat),
 e88 =
 Ending.returned
 (Value.agg #[Value.int IntKind.i64 n90, Value.string s91, Value.int IntKind.i64 n92, Value.int IntKind.i64 n93, Value.string s94, Value.slice p95 n96 c97]) ∧
 (Calls Tryd.prog 24
 #[Value.int IntKind.i64 13,
 Value.agg #[Value.int IntKind.i64 n80, Value.string s81, Value.int IntKind.i64 n82, Value.int IntKind.i64 n83, Value.string s84, Value.slice p85 n86 c87],
 Value.agg #[Value.int IntKind.i64 n90, Value.string s91, Value.int IntKind.i64 n92, Value.int IntKind.i64 n93, Value.string s94, Value.slice p95 n96 c97]]
 w89 fun (e98 : Ending) (w99 : World) ↦
 ∃ (n100 : Int),
 ∃ (s101 : ByteArray),
 ∃ (n102 : Int),
 ∃ (n103 : Int),
 ∃ (s104 : ByteArray),
 ∃ (p105 : Option Addr),
 ∃ (n106 : Nat),
 ∃ (c107 : Nat),
 e98 =
 Ending.returned
 (Value.agg #[Value.int IntKind.i64 n100, Value.string s101, Value.int IntKind.i64 n102, Value.int IntKind.i64 n103, Value.string s104, Value.slice p105 n106 c107]) ∧
 (Calls Tryd.prog 16
 #[Value.slice cols_p cols_n cols_c, Value.slice row_p row_n row_c,
 Value.agg #[Value.int IntKind.i64 n100, Value.string s101, Value.int IntKind.i64 n102, Value.int IntKind.i64 n103, Value.string s104, Value.slice p105 n106 c107]]
 w99 fun (e108 : Ending) (w109 : World) ↦
 ∃ (n110 : Int),
 ∃ (n111 : Int),
 ∃ (s112 : ByteArray),
 ∃ (n113 : Int),
 e108 = Ending.returned (Value.tuple #[Value.agg #[Value.int IntKind.i64 n110, Value.int IntKind.i64 n111, Value.string s112], Value.int IntKind.i64 n113]) ∧
 ∀ (b114 : Nat) (w'115 : World),
 New w109 (Obj.cells #[Value.int IntKind.i64 0, Value.int IntKind.i64 0, Value.string (ByteArray.mk #[])] 26) b114 w'115 →
 Same w109 w'115 ∧
 (∃ (u117 : Value), w'115.cell? (Addr.mk b114 0 none) = some u117) ∧
 w'115.frozen? (Addr.mk b114 0 none) = false ∧
 (∃ (u118 : Value), w'115.cell? (Addr.mk b114 1 none) = some u118) ∧
 w'115.frozen? (Addr.mk b114 1 none) = false ∧
 (∃ (u119 : Value), w'115.cell? (Addr.mk b114 2 none) = some u119) ∧
 w'115.frozen? (Addr.mk b114 2 none) = false ∧
 ∀ (w'120 : World),
 Put w'115 b114 0 [Value.int IntKind.i64 n110, Value.int IntKind.i64 n111, Value.string s112] w'120 →
 (n51 ≠ 122 ∧ n113 ≠ 122 →
 ∃ (n123 : Int),
 w'120.cell? (Addr.mk b52 0 none) = some (Value.int IntKind.i64 n123) ∧
 ∃ (n124 : Int),
 w'120.cell? (Addr.mk b52 1 none) = some (Value.int IntKind.i64 n124) ∧
 ∃ (s125 : ByteArray),
 w'120.cell? (Addr.mk b52 2 none) = some (Value.string s125) ∧
 ∃ (n126 : Int),
 w'120.cell? (Addr.mk b114 0 none) = some (Value.int IntKind.i64 n126) ∧
 ∃ (n127 : Int),
 w'120.cell? (Addr.mk b114 1 none) = some (Value.int IntKind.i64 n127) ∧
 ∃ (s128 : ByteArray),
 w'120.cell? (Addr.mk b114 2 none) = some (Value.string s128) ∧
 ((n123 ≠ n126 ∨ n124 ≠ n127 ∨ s125 ≠ s128) ∨ decide (n51 = 0) ≠ decide (n113 = 0) → R (Ending.returned (Value.bool false)) w'120) ∧
 ((n123 = n126 ∧ n124 = n127 ∧ s125 = s128) ∧ decide (n51 = 0) = decide (n113 = 0) →
 ∃ (n131 : Int),
 w'120.cell? (Addr.mk b1_1 0 none) = some (Value.int IntKind.i64 n131) ∧
 ∃ (s132 : ByteArray),
 w'120.cell? (Addr.mk b1_1 1 none) = some (Value.string s132) ∧
 ∃ (n133 : Int),
 w'120.cell? (Addr.mk b1_1 2 none) = some (Value.int IntKind.i64 n133) ∧
 ∃ (n134 : Int),
 w'120.cell? (Addr.mk b1_1 3 none) = some (Value.int IntKind.i64 n134) ∧
 ∃ (s135 : ByteArray),
 w'120.cell? (Addr.mk b1_1 4 none) = some (Value.string s135) ∧
 ∃ (p136 : Option Addr),
 ∃ (n137 : Nat),
 ∃ (c138 : Nat),
 w'120.cell? (Addr.mk b1_1 5 none) = some (Value.slice p136 n137 c138) ∧
 ∃ (n139 : Int),
 w'120.cell? (Addr.mk b4_1 0 none) = some (Value.int IntKind.i64 n139) ∧
 ∃ (s140 : ByteArray),
 w'120.cell? (Addr.mk b4_1 1 none) = some (Value.string s140) ∧
 ∃ (n141 : Int),
 w'120.cell? (Addr.mk b4_1 2 none) = some (Value.int IntKind.i64 n141) ∧
 ∃ (n142 : Int),
 w'120.cell? (Addr.mk b4_1 3 none) = some (Value.int IntKind.i64 n142) ∧
 ∃ (s143 : ByteArray),
 w'120.cell? (Addr.mk b4_1 4 none) = some (Value.string s143) ∧
 ∃ (p144 : Option Addr),
 ∃ (n145 : Nat),
 ∃ (c146 : Nat),
 w'120.cell? (Addr.mk b4_1 5 none) = some (Value.slice p144 n145 c146) ∧
 Calls Tryd.prog 24
 #[Value.int IntKind.i64 10,
 Value.agg #[Value.int IntKind.i64 n131, Value.string s132, Value.int IntKind.i64 n133, Value.int IntKind.i64 n134, Value.string s135, Value.slice p136 n137 c138],
 Value.agg #[Value.int IntKind.i64 n139, Value.string s140, Value.int IntKind.i64 n141, Value.int IntKind.i64 n142, Value.string s143, Value.slice p144 n145 c146]]
 w'120 fun (e147 : Ending) (w148 : World) ↦
 ∃ (n149 : Int),
 ∃ (s150 : ByteArray),
 ∃ (n151 : Int),
 ∃ (n152 : Int),
 ∃ (s153 : ByteArray),
 ∃ (p154 : Option Addr),
 ∃ (n155 : Nat),
 ∃ (c156 : Nat),
 e147 =
 Ending.returned
 (Value.agg #[Value.int IntKind.i64 n149, Value.string s150, Value.int IntKind.i64 n151, Value.int IntKind.i64 n152, Value.string s153, Value.slice p154 n155 c156]) ∧
 Calls Tryd.prog 16
 #[Value.slice cols_p cols_n cols_c, Value.slice row_p row_n row_c,
 Value.agg #[Value.int IntKind.i64 n149, Value.string s150, Value.int IntKind.i64 n151, Value.int IntKind.i64 n152, Value.string s153, Value.slice p154 n155 c156]]
 w148 fun (e157 : Ending) (w158 : World) ↦
 ∃ (n159 : Int),
 ∃ (n160 : Int),
 ∃ (s161 : ByteArray),
 ∃ (n162 : Int),
 e157 = Ending.returned (Value.tuple #[Value.agg #[Value.int IntKind.i64 n159, Value.int IntKind.i64 n160, Value.string s161], Value.int IntKind.i64 n162]) ∧
 (∃ (u163 : Value), w158.cell? (Addr.mk b52 0 none) = some u163) ∧
 w158.frozen? (Addr.mk b52 0 none) = false ∧
 (∃ (u164 : Value), w158.cell? (Addr.mk b52 1 none) = some u164) ∧
 w158.frozen? (Addr.mk b52 1 none) = false ∧
 (∃ (u165 : Value), w158.cell? (Addr.mk b52 2 none) = some u165) ∧
 w158.frozen? (Addr.mk b52 2 none) = false ∧
 ∀ (w'166 : World),
 Put w158 b52 0 [Value.int IntKind.i64 n159, Value.int IntKind.i64 n160, Value.string s161] w'166 →
 ∃ (n168 : Int),
 w'166.cell? (Addr.mk b4_1 0 none) = some (Value.int IntKind.i64 n168) ∧
 ∃ (s169 : ByteArray),
 w'166.cell? (Addr.mk b4_1 1 none) = some (Value.string s169) ∧
 ∃ (n170 : Int),
 w'166.cell? (Addr.mk b4_1 2 none) = some (Value.int IntKind.i64 n170) ∧
 ∃ (n171 : Int),
 w'166.cell? (Addr.mk b4_1 3 none) = some (Value.int IntKind.i64 n171) ∧
 ∃ (s172 : ByteArray),
 w'166.cell? (Addr.mk b4_1 4 none) = some (Value.string s172) ∧
 ∃ (p173 : Option Addr),
 ∃ (n174 : Nat),
 ∃ (c175 : Nat),
 w'166.cell? (Addr.mk b4_1 5 none) = some (Value.slice p173 n174 c175) ∧
 ∃ (n176 : Int),
 w'166.cell? (Addr.mk b1_1 0 none) = some (Value.int IntKind.i64 n176) ∧
 ∃ (s177 : ByteArray),
 w'166.cell? (Addr.mk b1_1 1 none) = some (Value.string s177) ∧
 ∃ (n178 : Int),
 w'166.cell? (Addr.mk b1_1 2 none) = some (Value.int IntKind.i64 n178) ∧
 ∃ (n179 : Int),
 w'166.cell? (Addr.mk b1_1 3 none) = some (Value.int IntKind.i64 n179) ∧
 ∃ (s180 : ByteArray),
 w'166.cell? (Addr.mk b1_1 4 none) = some (Value.string s180) ∧
 ∃ (p181 : Option Addr),
 ∃ (n182 : Nat),
 ∃ (c183 : Nat),
 w'166.cell? (Addr.mk b1_1 5 none) = some (Value.slice p181 n182 c183) ∧
 Calls Tryd.prog 24
 #[Value.int IntKind.i64 11,
 Value.agg #[Value.int IntKind.i64 n168, Value.string s169, Value.int IntKind.i64 n170, Value.int IntKind.i64 n171, Value.string s172, Value.slice p173 n174 c175],
 Value.agg #[Value.int IntKind.i64 n176, Value.string s177, Value.int IntKind.i64 n178, Value.int IntKind.i64 n179, Value.string s180, Value.slice p181 n182 c183]]
 w'166 fun (e184 : Ending) (w185 : World) ↦
 ∃ (n186 : Int),
 ∃ (s187 : ByteArray),
 ∃ (n188 : Int),
 ∃ (n189 : Int),
 ∃ (s190 : ByteArray),
 ∃ (p191 : Option Addr),
 ∃ (n192 : Nat),
 ∃ (c193 : Nat),
 e184 =
 Ending.returned
 (Value.agg #[Value.int IntKind.i64 n186, Value.string s187, Value.int IntKind.i64 n188, Value.int IntKind.i64 n189, Value.string s190, Value.slice p191 n192 c193]) ∧
 Calls Tryd.prog 23
 #[Value.int IntKind.i64 14,
 Value.agg #[Value.int IntKind.i64 n186, Value.string s187, Value.int IntKind.i64 n188, Value.int IntKind.i64 n189, Value.string s190, Value.slice p191 n192 c193]]
 w185 fun (e194 : Ending) (w195 : World) ↦
 ∃ (n196 : Int),
 ∃ (s197 : ByteArray),
 ∃ (n198 : Int),
 ∃ (n199 : Int),
 ∃ (s200 : ByteArray),
 ∃ (p201 : Option Addr),
 ∃ (n202 : Nat),
 ∃ (c203 : Nat),
 e194 =
 Ending.returned
 (Value.agg #[Value.int IntKind.i64 n196, Value.string s197, Value.int IntKind.i64 n198, Value.int IntKind.i64 n199, Value.string s200, Value.slice p201 n202 c203]) ∧
 Calls Tryd.prog 16
 #[Value.slice cols_p cols_n cols_c, Value.slice row_p row_n row_c,
 Value.agg #[Value.int IntKind.i64 n196, Value.string s197, Value.int IntKind.i64 n198, Value.int IntKind.i64 n199, Value.string s200, Value.slice p201 n202 c203]]
 w195 fun (e204 : Ending) (w205 : World) ↦
 ∃ (n206 : Int),
 ∃ (n207 : Int),
 ∃ (s208 : ByteArray),
 ∃ (n209 : Int),
 e204 = Ending.returned (Value.tuple #[Value.agg #[Value.int IntKind.i64 n206, Value.int IntKind.i64 n207, Value.string s208], Value.int IntKind.i64 n209]) ∧
 (∃ (u210 : Value), w205.cell? (Addr.mk b114 0 none) = some u210) ∧
 w205.frozen? (Addr.mk b114 0 none) = false ∧
 (∃ (u211 : Value), w205.cell? (Addr.mk b114 1 none) = some u211) ∧
 w205.frozen? (Addr.mk b114 1 none) = false ∧
 (∃ (u212 : Value), w205.cell? (Addr.mk b114 2 none) = some u212) ∧
 w205.frozen? (Addr.mk b114 2 none) = false ∧
 ∀ (w'213 : World),
 Put w205 b114 0 [Value.int IntKind.i64 n206, Value.int IntKind.i64 n207, Value.string s208] w'213 →
 (n162 ≠ 0 ∨ n209 ≠ 0 →
 (b9 = true → R (Ending.returned (Value.bool (!decide (n162 = 0) && !decide (n209 = 0) || decide (n162 = 122) || decide (n209 = 122)))) w'213) ∧
 (b9 = false → R (Ending.returned (Value.bool false)) w'213)) ∧
 (n162 = 0 ∧ n209 = 0 →
 (b9 = true →
 ∃ (n220 : Int),
 w'213.cell? (Addr.mk b52 0 none) = some (Value.int IntKind.i64 n220) ∧
 ∃ (n221 : Int),
 w'213.cell? (Addr.mk b52 1 none) = some (Value.int IntKind.i64 n221) ∧
 ∃ (s222 : ByteArray),
 w'213.cell? (Addr.mk b52 2 none) = some (Value.string s222) ∧
 ∃ (n223 : Int),
 w'213.cell? (Addr.mk b114 0 none) = some (Value.int IntKind.i64 n223) ∧
 ∃ (n224 : Int),
 w'213.cell? (Addr.mk b114 1 none) = some (Value.int IntKind.i64 n224) ∧
 ∃ (s225 : ByteArray),
 w'213.cell? (Addr.mk b114 2 none) = some (Value.string s225) ∧ R (Ending.returned (Value.bool (decide (n220 = n223) && (decide (n221 = n224) && sEq s222 s225)))) w'213) ∧
 (b9 = false → R (Ending.returned (Value.bool false)) w'213)))) ∧
 (n51 = 122 ∨ n113 = 122 →
 ∃ (n228 : Int),
 w'120.cell? (Addr.mk b1_1 0 none) = some (Value.int IntKind.i64 n228) ∧
 ∃ (s229 : ByteArray),
 w'120.cell? (Addr.mk b1_1 1 none) = some (Value.string s229) ∧
 ∃ (n230 : Int),
 w'120.cell? (Addr.mk b1_1 2 none) = some (Value.int IntKind.i64 n230) ∧
 ∃ (n231 : Int),
 w'120.cell? (Addr.mk b1_1 3 none) = some (Value.int IntKind.i64 n231) ∧
 ∃ (s232 : ByteArray),
 w'120.cell? (Addr.mk b1_1 4 none) = some (Value.string s232) ∧
 ∃ (p233 : Option Addr),
 ∃ (n234 : Nat),
 ∃ (c235 : Nat),
 w'120.cell? (Addr.mk b1_1 5 none) = some (Value.slice p233 n234 c235) ∧
 ∃ (n236 : Int),
 w'120.cell? (Addr.mk b4_1 0 none) = some (Value.int IntKind.i64 n236) ∧
 ∃ (s237 : ByteArray),
 w'120.cell? (Addr.mk b4_1 1 none) = some (Value.string s237) ∧
 ∃ (n238 : Int),
 w'120.cell? (Addr.mk b4_1 2 none) = some (Value.int IntKind.i64 n238) ∧
 ∃ (n239 : Int),
 w'120.cell? (Addr.mk b4_1 3 none) = some (Value.int IntKind.i64 n239) ∧
 ∃ (s240 : ByteArray),
 w'120.cell? (Addr.mk b4_1 4 none) = some (Value.string s240) ∧
 ∃ (p241 : Option Addr),
 ∃ (n242 : Nat),
 ∃ (c243 : Nat),
 w'120.cell? (Addr.mk b4_1 5 none) = some (Value.slice p241 n242 c243) ∧
 Calls Tryd.prog 24
 #[Value.int IntKind.i64 10,
 Value.agg #[Value.int IntKind.i64 n228, Value.string s229, Value.int IntKind.i64 n230, Value.int IntKind.i64 n231, Value.string s232, Value.slice p233 n234 c235],
 Value.agg #[Value.int IntKind.i64 n236, Value.string s237, Value.int IntKind.i64 n238, Value.int IntKind.i64 n239, Value.string s240, Value.slice p241 n242 c243]]
 w'120 fun (e244 : Ending) (w245 : World) ↦
 ∃ (n246 : Int),
 ∃ (s247 : ByteArray),
 ∃ (n248 : Int),
 ∃ (n249 : Int),
 ∃ (s250 : ByteArray),
 ∃ (p251 : Option Addr),
 ∃ (n252 : Nat),
 ∃ (c253 : Nat),
 e244 =
 Ending.returned
 (Value.agg #[Value.int IntKind.i64 n246, Value.string s247, Value.int IntKind.i64 n248, Value.int IntKind.i64 n249, Value.string s250, Value.slice p251 n252 c253]) ∧
 Calls Tryd.prog 16
 #[Value.slice cols_p cols_n cols_c, Value.slice row_p row_n row_c,
 Value.agg #[Value.int IntKind.i64 n246, Value.string s247, Value.int IntKind.i64 n248, Value.int IntKind.i64 n249, Value.string s250, Value.slice p251 n252 c253]]
 w245 fun (e254 : Ending) (w255 : World) ↦
 ∃ (n256 : Int),
 ∃ (n257 : Int),
 ∃ (s258 : ByteArray),
 ∃ (n259 : Int),
 e254 = Ending.returned (Value.tuple #[Value.agg #[Value.int IntKind.i64 n256, Value.int IntKind.i64 n257, Value.string s258], Value.int IntKind.i64 n259]) ∧
 (∃ (u260 : Value), w255.cell? (Addr.mk b52 0 none) = some u260) ∧
 w255.frozen? (Addr.mk b52 0 none) = false ∧
 (∃ (u261 : Value), w255.cell? (Addr.mk b52 1 none) = some u261) ∧
 w255.frozen? (Addr.mk b52 1 none) = false ∧
 (∃ (u262 : Value), w255.cell? (Addr.mk b52 2 none) = some u262) ∧
 w255.frozen? (Addr.mk b52 2 none) = false ∧
 ∀ (w'263 : World),
 Put w255 b52 0 [Value.int IntKind.i64 n256, Value.int IntKind.i64 n257, Value.string s258] w'263 →
 ∃ (n265 : Int),
 w'263.cell? (Addr.mk b4_1 0 none) = some (Value.int IntKind.i64 n265) ∧
 ∃ (s266 : ByteArray),
 w'263.cell? (Addr.mk b4_1 1 none) = some (Value.string s266) ∧
 ∃ (n267 : Int),
 w'263.cell? (Addr.mk b4_1 2 none) = some (Value.int IntKind.i64 n267) ∧
 ∃ (n268 : Int),
 w'263.cell? (Addr.mk b4_1 3 none) = some (Value.int IntKind.i64 n268) ∧
 ∃ (s269 : ByteArray),
 w'263.cell? (Addr.mk b4_1 4 none) = some (Value.string s269) ∧
 ∃ (p270 : Option Addr),
 ∃ (n271 : Nat),
 ∃ (c272 : Nat),
 w'263.cell? (Addr.mk b4_1 5 none) = some (Value.slice p270 n271 c272) ∧
 ∃ (n273 : Int),
 w'263.cell? (Addr.mk b1_1 0 none) = some (Value.int IntKind.i64 n273) ∧
 ∃ (s274 : ByteArray),
 w'263.cell? (Addr.mk b1_1 1 none) = some (Value.string s274) ∧
 ∃ (n275 : Int),
 w'263.cell? (Addr.mk b1_1 2 none) = some (Value.int IntKind.i64 n275) ∧
 ∃ (n276 : Int),
 w'263.cell? (Addr.mk b1_1 3 none) = some (Value.int IntKind.i64 n276) ∧
 ∃ (s277 : ByteArray),
 w'263.cell? (Addr.mk b1_1 4 none) = some (Value.string s277) ∧
 ∃ (p278 : Option Addr),
 ∃ (n279 : Nat),
 ∃ (c280 : Nat),
 w'263.cell? (Addr.mk b1_1 5 none) = some (Value.slice p278 n279 c280) ∧
 Calls Tryd.prog 24
 #[Value.int IntKind.i64 11,
 Value.agg #[Value.int IntKind.i64 n265, Value.string s266, Value.int IntKind.i64 n267, Value.int IntKind.i64 n268, Value.string s269, Value.slice p270 n271 c272],
 Value.agg #[Value.int IntKind.i64 n273, Value.string s274, Value.int IntKind.i64 n275, Value.int IntKind.i64 n276, Value.string s277, Value.slice p278 n279 c280]]
 w'263 fun (e281 : Ending) (w282 : World) ↦
 ∃ (n283 : Int),
 ∃ (s284 : ByteArray),
 ∃ (n285 : Int),
 ∃ (n286 : Int),
 ∃ (s287 : ByteArray),
 ∃ (p288 : Option Addr),
 ∃ (n289 : Nat),
 ∃ (c290 : Nat),
 e281 =
 Ending.returned
 (Value.agg #[Value.int IntKind.i64 n283, Value.string s284, Value.int IntKind.i64 n285, Value.int IntKind.i64 n286, Value.string s287, Value.slice p288 n289 c290]) ∧
 Calls Tryd.prog 23
 #[Value.int IntKind.i64 14,
 Value.agg #[Value.int IntKind.i64 n283, Value.string s284, Value.int IntKind.i64 n285, Value.int IntKind.i64 n286, Value.string s287, Value.slice p288 n289 c290]]
 w282 fun (e291 : Ending) (w292 : World) ↦
 ∃ (n293 : Int),
 ∃ (s294 : ByteArray),
 ∃ (n295 : Int),
 ∃ (n296 : Int),
 ∃ (s297 : ByteArray),
 ∃ (p298 : Option Addr),
 ∃ (n299 : Nat),
 ∃ (c300 : Nat),
 e291 =
 Ending.returned
 (Value.agg #[Value.int IntKind.i64 n293, Value.string s294, Value.int IntKind.i64 n295, Value.int IntKind.i64 n296, Value.string s297, Value.slice p298 n299 c300]) ∧
 Calls Tryd.prog 16
 #[Value.slice cols_p cols_n cols_c, Value.slice row_p row_n row_c,
 Value.agg #[Value.int IntKind.i64 n293, Value.string s294, Value.int IntKind.i64 n295, Value.int IntKind.i64 n296, Value.string s297, Value.slice p298 n299 c300]]
 w292 fun (e301 : Ending) (w302 : World) ↦
 ∃ (n303 : Int),
 ∃ (n304 : Int),
 ∃ (s305 : ByteArray),
 ∃ (n306 : Int),
 e301 = Ending.returned (Value.tuple #[Value.agg #[Value.int IntKind.i64 n303, Value.int IntKind.i64 n304, Value.string s305], Value.int IntKind.i64 n306]) ∧
 (∃ (u307 : Value), w302.cell? (Addr.mk b114 0 none) = some u307) ∧
 w302.frozen? (Addr.mk b114 0 none) = false ∧
 (∃ (u308 : Value), w302.cell? (Addr.mk b114 1 none) = some u308) ∧
 w302.frozen? (Addr.mk b114 1 none) = false ∧
 (∃ (u309 : Value), w302.cell? (Addr.mk b114 2 none) = some u309) ∧
 w302.frozen? (Addr.mk b114 2 none) = false ∧
 ∀ (w'310 : World),
 Put w302 b114 0 [Value.int IntKind.i64 n303, Value.int IntKind.i64 n304, Value.string s305] w'310 →
 (n259 ≠ 0 ∨ n306 ≠ 0 →
 (b9 = true → R (Ending.returned (Value.bool (!decide (n259 = 0) && !decide (n306 = 0) || decide (n259 = 122) || decide (n306 = 122)))) w'310) ∧
 (b9 = false → R (Ending.returned (Value.bool false)) w'310)) ∧
 (n259 = 0 ∧ n306 = 0 →
 (b9 = true →
 ∃ (n317 : Int),
 w'310.cell? (Addr.mk b52 0 none) = some (Value.int IntKind.i64 n317) ∧
 ∃ (n318 : Int),
 w'310.cell? (Addr.mk b52 1 none) = some (Value.int IntKind.i64 n318) ∧
 ∃ (s319 : ByteArray),
 w'310.cell? (Addr.mk b52 2 none) = some (Value.string s319) ∧
 ∃ (n320 : Int),
 w'310.cell? (Addr.mk b114 0 none) = some (Value.int IntKind.i64 n320) ∧
 ∃ (n321 : Int),
 w'310.cell? (Addr.mk b114 1 none) = some (Value.int IntKind.i64 n321) ∧
 ∃ (s322 : ByteArray),
 w'310.cell? (Addr.mk b114 2 none) = some (Value.string s322) ∧ R (Ending.returned (Value.bool (decide (n317 = n320) && (decide (n318 = n321) && sEq s319 s322)))) w'310) ∧
 (b9 = false → R (Ending.returned (Value.bool false)) w'310)))) ∧
 ∀ (b324 : Nat) (w'325 : World),
 New w99 (Obj.cells #[Value.int IntKind.i64 0, Value.int IntKind.i64 0, Value.string (ByteArray.mk #[])] 26) b324 w'325 →
 Same w99 w'325 ∧
 Calls Tryd.prog 16
 #[Value.slice cols_p cols_n cols_c, Value.slice row_p row_n row_c,
 Value.agg #[Value.int IntKind.i64 n100, Value.string s101, Value.int IntKind.i64 n102, Value.int IntKind.i64 n103, Value.string s104, Value.slice p105 n106 c107]]
 w'325 fun (e327 : Ending) (w328 : World) ↦
 ∃ (n329 : Int),
 ∃ (n330 : Int),
 ∃ (s331 : ByteArray),
 ∃ (n332 : Int),
 e327 = Ending.returned (Value.tuple #[Value.agg #[Value.int IntKind.i64 n329, Value.int IntKind.i64 n330, Value.string s331], Value.int IntKind.i64 n332]) ∧
 (∃ (u333 : Value), w328.cell? (Addr.mk b324 0 none) = some u333) ∧
 w328.frozen? (Addr.mk b324 0 none) = false ∧
 (∃ (u334 : Value), w328.cell? (Addr.mk b324 1 none) = some u334) ∧
 w328.frozen? (Addr.mk b324 1 none) = false ∧
 (∃ (u335 : Value), w328.cell? (Addr.mk b324 2 none) = some u335) ∧
 w328.frozen? (Addr.mk b324 2 none) = false ∧
 ∀ (w'336 : World),
 Put w328 b324 0 [Value.int IntKind.i64 n329, Value.int IntKind.i64 n330, Value.string s331] w'336 →
 (n51 ≠ 122 ∧ n332 ≠ 122 →
 ∃ (n339 : Int),
 w'336.cell? (Addr.mk b52 0 none) = some (Value.int IntKind.i64 n339) ∧
 ∃ (n340 : Int),
 w'336.cell? (Addr.mk b52 1 none) = some (Value.int IntKind.i64 n340) ∧
 ∃ (s341 : ByteArray),
 w'336.cell? (Addr.mk b52 2 none) = some (Value.string s341) ∧
 ∃ (n342 : Int),
 w'336.cell? (Addr.mk b324 0 none) = some (Value.int IntKind.i64 n342) ∧
 ∃ (n343 : Int),
 w'336.cell? (Addr.mk b324 1 none) = some (Value.int IntKind.i64 n343) ∧
 ∃ (s344 : ByteArray),
 w'336.cell? (Addr.mk b324 2 none) = some (Value.string s344) ∧
 ((n339 ≠ n342 ∨ n340 ≠ n343 ∨ s341 ≠ s344) ∨ decide (n51 = 0) ≠ decide (n332 = 0) → R (Ending.returned (Value.bool false)) w'336) ∧
 ((n339 = n342 ∧ n340 = n343 ∧ s341 = s344) ∧ decide (n51 = 0) = decide (n332 = 0) →
 ∃ (n347 : Int),
 w'336.cell? (Addr.mk b1_1 0 none) = some (Value.int IntKind.i64 n347) ∧
 ∃ (s348 : ByteArray),
 w'336.cell? (Addr.mk b1_1 1 none) = some (Value.string s348) ∧
 ∃ (n349 : Int),
 w'336.cell? (Addr.mk b1_1 2 none) = some (Value.int IntKind.i64 n349) ∧
 ∃ (n350 : Int),
 w'336.cell? (Addr.mk b1_1 3 none) = some (Value.int IntKind.i64 n350) ∧
 ∃ (s351 : ByteArray),
 w'336.cell? (Addr.mk b1_1 4 none) = some (Value.string s351) ∧
 ∃ (p352 : Option Addr),
 ∃ (n353 : Nat),
 ∃ (c354 : Nat),
 w'336.cell? (Addr.mk b1_1 5 none) = some (Value.slice p352 n353 c354) ∧
 ∃ (n355 : Int),
 w'336.cell? (Addr.mk b4_1 0 none) = some (Value.int IntKind.i64 n355) ∧
 ∃ (s356 : ByteArray),
 w'336.cell? (Addr.mk b4_1 1 none) = some (Value.string s356) ∧
 ∃ (n357 : Int),
 w'336.cell? (Addr.mk b4_1 2 none) = some (Value.int IntKind.i64 n357) ∧
 ∃ (n358 : Int),
 w'336.cell? (Addr.mk b4_1 3 none) = some (Value.int IntKind.i64 n358) ∧
 ∃ (s359 : ByteArray),
 w'336.cell? (Addr.mk b4_1 4 none) = some (Value.string s359) ∧
 ∃ (p360 : Option Addr),
 ∃ (n361 : Nat),
 ∃ (c362 : Nat),
 w'336.cell? (Addr.mk b4_1 5 none) = some (Value.slice p360 n361 c362) ∧
 Calls Tryd.prog 24
 #[Value.int IntKind.i64 10,
 Value.agg #[Value.int IntKind.i64 n347, Value.string s348, Value.int IntKind.i64 n349, Value.int IntKind.i64 n350, Value.string s351, Value.slice p352 n353 c354],
 Value.agg #[Value.int IntKind.i64 n355, Value.string s356, Value.int IntKind.i64 n357, Value.int IntKind.i64 n358, Value.string s359, Value.slice p360 n361 c362]]
 w'336 fun (e363 : Ending) (w364 : World) ↦
 ∃ (n365 : Int),
 ∃ (s366 : ByteArray),
 ∃ (n367 : Int),
 ∃ (n368 : Int),
 ∃ (s369 : ByteArray),
 ∃ (p370 : Option Addr),
 ∃ (n371 : Nat),
 ∃ (c372 : Nat),
 e363 =
 Ending.returned
 (Value.agg #[Value.int IntKind.i64 n365, Value.string s366, Value.int IntKind.i64 n367, Value.int IntKind.i64 n368, Value.string s369, Value.slice p370 n371 c372]) ∧
 Calls Tryd.prog 16
 #[Value.slice cols_p cols_n cols_c, Value.slice row_p row_n row_c,
 Value.agg #[Value.int IntKind.i64 n365, Value.string s366, Value.int IntKind.i64 n367, Value.int IntKind.i64 n368, Value.string s369, Value.slice p370 n371 c372]]
 w364 fun (e373 : Ending) (w374 : World) ↦
 ∃ (n375 : Int),
 ∃ (n376 : Int),
 ∃ (s377 : ByteArray),
 ∃ (n378 : Int),
 e373 = Ending.returned (Value.tuple #[Value.agg #[Value.int IntKind.i64 n375, Value.int IntKind.i64 n376, Value.string s377], Value.int IntKind.i64 n378]) ∧
 (∃ (u379 : Value), w374.cell? (Addr.mk b52 0 none) = some u379) ∧
 w374.frozen? (Addr.mk b52 0 none) = false ∧
 (∃ (u380 : Value), w374.cell? (Addr.mk b52 1 none) = some u380) ∧
 w374.frozen? (Addr.mk b52 1 none) = false ∧
 (∃ (u381 : Value), w374.cell? (Addr.mk b52 2 none) = some u381) ∧
 w374.frozen? (Addr.mk b52 2 none) = false ∧
 ∀ (w'382 : World),
 Put w374 b52 0 [Value.int IntKind.i64 n375, Value.int IntKind.i64 n376, Value.string s377] w'382 →
 ∃ (n384 : Int),
 w'382.cell? (Addr.mk b4_1 0 none) = some (Value.int IntKind.i64 n384) ∧
 ∃ (s385 : ByteArray),
 w'382.cell? (Addr.mk b4_1 1 none) = some (Value.string s385) ∧
 ∃ (n386 : Int),
 w'382.cell? (Addr.mk b4_1 2 none) = some (Value.int IntKind.i64 n386) ∧
 ∃ (n387 : Int),
 w'382.cell? (Addr.mk b4_1 3 none) = some (Value.int IntKind.i64 n387) ∧
 ∃ (s388 : ByteArray),
 w'382.cell? (Addr.mk b4_1 4 none) = some (Value.string s388) ∧
 ∃ (p389 : Option Addr),
 ∃ (n390 : Nat),
 ∃ (c391 : Nat),
 w'382.cell? (Addr.mk b4_1 5 none) = some (Value.slice p389 n390 c391) ∧
 ∃ (n392 : Int),
 w'382.cell? (Addr.mk b1_1 0 none) = some (Value.int IntKind.i64 n392) ∧
 ∃ (s393 : ByteArray),
 w'382.cell? (Addr.mk b1_1 1 none) = some (Value.string s393) ∧
 ∃ (n394 : Int),
 w'382.cell? (Addr.mk b1_1 2 none) = some (Value.int IntKind.i64 n394) ∧
 ∃ (n395 : Int),
 w'382.cell? (Addr.mk b1_1 3 none) = some (Value.int IntKind.i64 n395) ∧
 ∃ (s396 : ByteArray),
 w'382.cell? (Addr.mk b1_1 4 none) = some (Value.string s396) ∧
 ∃ (p397 : Option Addr),
 ∃ (n398 : Nat),
 ∃ (c399 : Nat),
 w'382.cell? (Addr.mk b1_1 5 none) = some (Value.slice p397 n398 c399) ∧
 Calls Tryd.prog 24
 #[Value.int IntKind.i64 11,
 Value.agg #[Value.int IntKind.i64 n384, Value.string s385, Value.int IntKind.i64 n386, Value.int IntKind.i64 n387, Value.string s388, Value.slice p389 n390 c391],
 Value.agg #[Value.int IntKind.i64 n392, Value.string s393, Value.int IntKind.i64 n394, Value.int IntKind.i64 n395, Value.string s396, Value.slice p397 n398 c399]]
 w'382 fun (e400 : Ending) (w401 : World) ↦
 ∃ (n402 : Int),
 ∃ (s403 : ByteArray),
 ∃ (n404 : Int),
 ∃ (n405 : Int),
 ∃ (s406 : ByteArray),
 ∃ (p407 : Option Addr),
 ∃ (n408 : Nat),
 ∃ (c409 : Nat),
 e400 =
 Ending.returned
 (Value.agg #[Value.int IntKind.i64 n402, Value.string s403, Value.int IntKind.i64 n404, Value.int IntKind.i64 n405, Value.string s406, Value.slice p407 n408 c409]) ∧
 Calls Tryd.prog 23
 #[Value.int IntKind.i64 14,
 Value.agg #[Value.int IntKind.i64 n402, Value.string s403, Value.int IntKind.i64 n404, Value.int IntKind.i64 n405, Value.string s406, Value.slice p407 n408 c409]]
 w401 fun (e410 : Ending) (w411 : World) ↦
 ∃ (n412 : Int),
 ∃ (s413 : ByteArray),
 ∃ (n414 : Int),
 ∃ (n415 : Int),
 ∃ (s416 : ByteArray),
 ∃ (p417 : Option Addr),
 ∃ (n418 : Nat),
 ∃ (c419 : Nat),
 e410 =
 Ending.returned
 (Value.agg #[Value.int IntKind.i64 n412, Value.string s413, Value.int IntKind.i64 n414, Value.int IntKind.i64 n415, Value.string s416, Value.slice p417 n418 c419]) ∧
 Calls Tryd.prog 16
 #[Value.slice cols_p cols_n cols_c, Value.slice row_p row_n row_c,
 Value.agg #[Value.int IntKind.i64 n412, Value.string s413, Value.int IntKind.i64 n414, Value.int IntKind.i64 n415, Value.string s416, Value.slice p417 n418 c419]]
 w411 fun (e420 : Ending) (w421 : World) ↦
 ∃ (n422 : Int),
 ∃ (n423 : Int),
 ∃ (s424 : ByteArray),
 ∃ (n425 : Int),
 e420 = Ending.returned (Value.tuple #[Value.agg #[Value.int IntKind.i64 n422, Value.int IntKind.i64 n423, Value.string s424], Value.int IntKind.i64 n425]) ∧
 (∃ (u426 : Value), w421.cell? (Addr.mk b324 0 none) = some u426) ∧
 w421.frozen? (Addr.mk b324 0 none) = false ∧
 (∃ (u427 : Value), w421.cell? (Addr.mk b324 1 none) = some u427) ∧
 w421.frozen? (Addr.mk b324 1 none) = false ∧
 (∃ (u428 : Value), w421.cell? (Addr.mk b324 2 none) = some u428) ∧
 w421.frozen? (Addr.mk b324 2 none) = false ∧
 ∀ (w'429 : World),
 Put w421 b324 0 [Value.int IntKind.i64 n422, Value.int IntKind.i64 n423, Value.string s424] w'429 →
 (n378 ≠ 0 ∨ n425 ≠ 0 →
 (b9 = true → R (Ending.returned (Value.bool (!decide (n378 = 0) && !decide (n425 = 0) || decide (n378 = 122) || decide (n425 = 122)))) w'429) ∧
 (b9 = false → R (Ending.returned (Value.bool false)) w'429)) ∧
 (n378 = 0 ∧ n425 = 0 →
 (b9 = true →
 ∃ (n436 : Int),
 w'429.cell? (Addr.mk b52 0 none) = some (Value.int IntKind.i64 n436) ∧
 ∃ (n437 : Int),
 w'429.cell? (Addr.mk b52 1 none) = some (Value.int IntKind.i64 n437) ∧
 ∃ (s438 : ByteArray),
 w'429.cell? (Addr.mk b52 2 none) = some (Value.string s438) ∧
 ∃ (n439 : Int),
 w'429.cell? (Addr.mk b324 0 none) = some (Value.int IntKind.i64 n439) ∧
 ∃ (n440 : Int),
 w'429.cell? (Addr.mk b324 1 none) = some (Value.int IntKind.i64 n440) ∧
 ∃ (s441 : ByteArray),
 w'429.cell? (Addr.mk b324 2 none) = some (Value.string s441) ∧ R (Ending.returned (Value.bool (decide (n436 = n439) && (decide (n437 = n440) && sEq s438 s441)))) w'429) ∧
 (b9 = false → R (Ending.returned (Value.bool false)) w'429)))) ∧
 (n51 = 122 ∨ n332 = 122 →
 ∃ (n444 : Int),
 w'336.cell? (Addr.mk b1_1 0 none) = some (Value.int IntKind.i64 n444) ∧
 ∃ (s445 : ByteArray),
 w'336.cell? (Addr.mk b1_1 1 none) = some (Value.string s445) ∧
 ∃ (n446 : Int),
 w'336.cell? (Addr.mk b1_1 2 none) = some (Value.int IntKind.i64 n446) ∧
 ∃ (n447 : Int),
 w'336.cell? (Addr.mk b1_1 3 none) = some (Value.int IntKind.i64 n447) ∧
 ∃ (s448 : ByteArray),
 w'336.cell? (Addr.mk b1_1 4 none) = some (Value.string s448) ∧
 ∃ (p449 : Option Addr),
 ∃ (n450 : Nat),
 ∃ (c451 : Nat),
 w'336.cell? (Addr.mk b1_1 5 none) = some (Value.slice p449 n450 c451) ∧
 ∃ (n452 : Int),
 w'336.cell? (Addr.mk b4_1 0 none) = some (Value.int IntKind.i64 n452) ∧
 ∃ (s453 : ByteArray),
 w'336.cell? (Addr.mk b4_1 1 none) = some (Value.string s453) ∧
 ∃ (n454 : Int),
 w'336.cell? (Addr.mk b4_1 2 none) = some (Value.int IntKind.i64 n454) ∧
 ∃ (n455 : Int),
 w'336.cell? (Addr.mk b4_1 3 none) = some (Value.int IntKind.i64 n455) ∧
 ∃ (s456 : ByteArray),
 w'336.cell? (Addr.mk b4_1 4 none) = some (Value.string s456) ∧
 ∃ (p457 : Option Addr),
 ∃ (n458 : Nat),
 ∃ (c459 : Nat),
 w'336.cell? (Addr.mk b4_1 5 none) = some (Value.slice p457 n458 c459) ∧
 Calls Tryd.prog 24
 #[Value.int IntKind.i64 10,
 Value.agg #[Value.int IntKind.i64 n444, Value.string s445, Value.int IntKind.i64 n446, Value.int IntKind.i64 n447, Value.string s448, Value.slice p449 n450 c451],
 Value.agg #[Value.int IntKind.i64 n452, Value.string s453, Value.int IntKind.i64 n454, Value.int IntKind.i64 n455, Value.string s456, Value.slice p457 n458 c459]]
 w'336 fun (e460 : Ending) (w461 : World) ↦
 ∃ (n462 : Int),
 ∃ (s463 : ByteArray),
 ∃ (n464 : Int),
 ∃ (n465 : Int),
 ∃ (s466 : ByteArray),
 ∃ (p467 : Option Addr),
 ∃ (n468 : Nat),
 ∃ (c469 : Nat),
 e460 =
 Ending.returned
 (Value.agg #[Value.int IntKind.i64 n462, Value.string s463, Value.int IntKind.i64 n464, Value.int IntKind.i64 n465, Value.string s466, Value.slice p467 n468 c469]) ∧
 Calls Tryd.prog 16
 #[Value.slice cols_p cols_n cols_c, Value.slice row_p row_n row_c,
 Value.agg #[Value.int IntKind.i64 n462, Value.string s463, Value.int IntKind.i64 n464, Value.int IntKind.i64 n465, Value.string s466, Value.slice p467 n468 c469]]
 w461 fun (e470 : Ending) (w471 : World) ↦
 ∃ (n472 : Int),
 ∃ (n473 : Int),
 ∃ (s474 : ByteArray),
 ∃ (n475 : Int),
 e470 = Ending.returned (Value.tuple #[Value.agg #[Value.int IntKind.i64 n472, Value.int IntKind.i64 n473, Value.string s474], Value.int IntKind.i64 n475]) ∧
 (∃ (u476 : Value), w471.cell? (Addr.mk b52 0 none) = some u476) ∧
 w471.frozen? (Addr.mk b52 0 none) = false ∧
 (∃ (u477 : Value), w471.cell? (Addr.mk b52 1 none) = some u477) ∧
 w471.frozen? (Addr.mk b52 1 none) = false ∧
 (∃ (u478 : Value), w471.cell? (Addr.mk b52 2 none) = some u478) ∧
 w471.frozen? (Addr.mk b52 2 none) = false ∧
 ∀ (w'479 : World),
 Put w471 b52 0 [Value.int IntKind.i64 n472, Value.int IntKind.i64 n473, Value.string s474] w'479 →
 ∃ (n481 : Int),
 w'479.cell? (Addr.mk b4_1 0 none) = some (Value.int IntKind.i64 n481) ∧
 ∃ (s482 : ByteArray),
 w'479.cell? (Addr.mk b4_1 1 none) = some (Value.string s482) ∧
 ∃ (n483 : Int),
 w'479.cell? (Addr.mk b4_1 2 none) = some (Value.int IntKind.i64 n483) ∧
 ∃ (n484 : Int),
 w'479.cell? (Addr.mk b4_1 3 none) = some (Value.int IntKind.i64 n484) ∧
 ∃ (s485 : ByteArray),
 w'479.cell? (Addr.mk b4_1 4 none) = some (Value.string s485) ∧
 ∃ (p486 : Option Addr),
 ∃ (n487 : Nat),
 ∃ (c488 : Nat),
 w'479.cell? (Addr.mk b4_1 5 none) = some (Value.slice p486 n487 c488) ∧
 ∃ (n489 : Int),
 w'479.cell? (Addr.mk b1_1 0 none) = some (Value.int IntKind.i64 n489) ∧
 ∃ (s490 : ByteArray),
 w'479.cell? (Addr.mk b1_1 1 none) = some (Value.string s490) ∧
 ∃ (n491 : Int),
 w'479.cell? (Addr.mk b1_1 2 none) = some (Value.int IntKind.i64 n491) ∧
 ∃ (n492 : Int),
 w'479.cell? (Addr.mk b1_1 3 none) = some (Value.int IntKind.i64 n492) ∧
 ∃ (s493 : ByteArray),
 w'479.cell? (Addr.mk b1_1 4 none) = some (Value.string s493) ∧
 ∃ (p494 : Option Addr),
 ∃ (n495 : Nat),
 ∃ (c496 : Nat),
 w'479.cell? (Addr.mk b1_1 5 none) = some (Value.slice p494 n495 c496) ∧
 Calls Tryd.prog 24
 #[Value.int IntKind.i64 11,
 Value.agg #[Value.int IntKind.i64 n481, Value.string s482, Value.int IntKind.i64 n483, Value.int IntKind.i64 n484, Value.string s485, Value.slice p486 n487 c488],
 Value.agg #[Value.int IntKind.i64 n489, Value.string s490, Value.int IntKind.i64 n491, Value.int IntKind.i64 n492, Value.string s493, Value.slice p494 n495 c496]]
 w'479 fun (e497 : Ending) (w498 : World) ↦
 ∃ (n499 : Int),
 ∃ (s500 : ByteArray),
 ∃ (n501 : Int),
 ∃ (n502 : Int),
 ∃ (s503 : ByteArray),
 ∃ (p504 : Option Addr),
 ∃ (n505 : Nat),
 ∃ (c506 : Nat),
 e497 =
 Ending.returned
 (Value.agg #[Value.int IntKind.i64 n499, Value.string s500, Value.int IntKind.i64 n501, Value.int IntKind.i64 n502, Value.string s503, Value.slice p504 n505 c506]) ∧
 Calls Tryd.prog 23
 #[Value.int IntKind.i64 14,
 Value.agg #[Value.int IntKind.i64 n499, Value.string s500, Value.int IntKind.i64 n501, Value.int IntKind.i64 n502, Value.string s503, Value.slice p504 n505 c506]]
 w498 fun (e507 : Ending) (w508 : World) ↦
 ∃ (n509 : Int),
 ∃ (s510 : ByteArray),
 ∃ (n511 : Int),
 ∃ (n512 : Int),
 ∃ (s513 : ByteArray),
 ∃ (p514 : Option Addr),
 ∃ (n515 : Nat),
 ∃ (c516 : Nat),
 e507 =
 Ending.returned
 (Value.agg #[Value.int IntKind.i64 n509, Value.string s510, Value.int IntKind.i64 n511, Value.int IntKind.i64 n512, Value.string s513, Value.slice p514 n515 c516]) ∧
 Calls Tryd.prog 16
 #[Value.slice cols_p cols_n cols_c, Value.slice row_p row_n row_c,
 Value.agg #[Value.int IntKind.i64 n509, Value.string s510, Value.int IntKind.i64 n511, Value.int IntKind.i64 n512, Value.string s513, Value.slice p514 n515 c516]]
 w508 fun (e517 : Ending) (w518 : World) ↦
 ∃ (n519 : Int),
 ∃ (n520 : Int),
 ∃ (s521 : ByteArray),
 ∃ (n522 : Int),
 e517 = Ending.returned (Value.tuple #[Value.agg #[Value.int IntKind.i64 n519, Value.int IntKind.i64 n520, Value.string s521], Value.int IntKind.i64 n522]) ∧
 (∃ (u523 : Value), w518.cell? (Addr.mk b324 0 none) = some u523) ∧
 w518.frozen? (Addr.mk b324 0 none) = false ∧
 (∃ (u524 : Value), w518.cell? (Addr.mk b324 1 none) = some u524) ∧
 w518.frozen? (Addr.mk b324 1 none) = false ∧
 (∃ (u525 : Value), w518.cell? (Addr.mk b324 2 none) = some u525) ∧
 w518.frozen? (Addr.mk b324 2 none) = false ∧
 ∀ (w'526 : World),
 Put w518 b324 0 [Value.int IntKind.i64 n519, Value.int IntKind.i64 n520, Value.string s521] w'526 →
 (n475 ≠ 0 ∨ n522 ≠ 0 →
 (b9 = true → R (Ending.returned (Value.bool (!decide (n475 = 0) && !decide (n522 = 0) || decide (n475 = 122) || decide (n522 = 122)))) w'526) ∧
 (b9 = false → R (Ending.returned (Value.bool false)) w'526)) ∧
 (n475 = 0 ∧ n522 = 0 →
 (b9 = true →
 ∃ (n533 : Int),
 w'526.cell? (Addr.mk b52 0 none) = some (Value.int IntKind.i64 n533) ∧
 ∃ (n534 : Int),
 w'526.cell? (Addr.mk b52 1 none) = some (Value.int IntKind.i64 n534) ∧
 ∃ (s535 : ByteArray),
 w'526.cell? (Addr.mk b52 2 none) = some (Value.string s535) ∧
 ∃ (n536 : Int),
 w'526.cell? (Addr.mk b324 0 none) = some (Value.int IntKind.i64 n536) ∧
 ∃ (n537 : Int),
 w'526.cell? (Addr.mk b324 1 none) = some (Value.int IntKind.i64 n537) ∧
 ∃ (s538 : ByteArray),
 w'526.cell? (Addr.mk b324 2 none) = some (Value.string s538) ∧ R (Ending.returned (Value.bool (decide (n533 = n536) && (decide (n534 = n537) && sEq s535 s538)))) w'526) ∧
 (b9 = false → R (Ending.returned (Value.bool false)) w'526)))) ∧
 ∀ (b540 : Nat) (w'541 : World),
 New w89 (Obj.cells #[Value.int IntKind.i64 0, Value.int IntKind.i64 0, Value.string (ByteArray.mk #[])] 26) b540 w'541 →
 Same w89 w'541 ∧
 Calls Tryd.prog 24
 #[Value.int IntKind.i64 13,
 Value.agg #[Value.int IntKind.i64 n80, Value.string s81, Value.int IntKind.i64 n82, Value.int IntKind.i64 n83, Value.string s84, Value.slice p85 n86 c87],
 Value.agg #[Value.int IntKind.i64 n90, Value.string s91, Value.int IntKind.i64 n92, Value.int IntKind.i64 n93, Value.string s94, Value.slice p95 n96 c97]]
 w'541 fun (e543 : Ending) (w544 : World) ↦
 ∃ (n545 : Int),
 ∃ (s546 : ByteArray),
 ∃ (n547 : Int),
 ∃ (n548 : Int),
 ∃ (s549 : ByteArray),
 ∃ (p550 : Option Addr),
 ∃ (n551 : Nat),
 ∃ (c552 : Nat),
 e543 =
 Ending.returned
 (Value.agg #[Value.int IntKind.i64 n545, Value.string s546, Value.int IntKind.i64 n547, Value.int IntKind.i64 n548, Value.string s549, Value.slice p550 n551 c552]) ∧
 Calls Tryd.prog 16
 #[Value.slice cols_p cols_n cols_c, Value.slice row_p row_n row_c,
 Value.agg #[Value.int IntKind.i64 n545, Value.string s546, Value.int IntKind.i64 n547, Value.int IntKind.i64 n548, Value.string s549, Value.slice p550 n551 c552]]
 w544 fun (e553 : Ending) (w554 : World) ↦
 ∃ (n555 : Int),
 ∃ (n556 : Int),
 ∃ (s557 : ByteArray),
 ∃ (n558 : Int),
 e553 = Ending.returned (Value.tuple #[Value.agg #[Value.int IntKind.i64 n555, Value.int IntKind.i64 n556, Value.string s557], Value.int IntKind.i64 n558]) ∧
 (∃ (u559 : Value), w554.cell? (Addr.mk b540 0 none) = some u559) ∧
 w554.frozen? (Addr.mk b540 0 none) = false ∧
 (∃ (u560 : Value), w554.cell? (Addr.mk b540 1 none) = some u560) ∧
 w554.frozen? (Addr.mk b540 1 none) = false ∧
 (∃ (u561 : Value), w554.cell? (Addr.mk b540 2 none) = some u561) ∧
 w554.frozen? (Addr.mk b540 2 none) = false ∧
 ∀ (w'562 : World),
 Put w554 b540 0 [Value.int IntKind.i64 n555, Value.int IntKind.i64 n556, Value.string s557] w'562 →
 (n51 ≠ 122 ∧ n558 ≠ 122 →
 ∃ (n565 : Int),
 w'562.cell? (Addr.mk b52 0 none) = some (Value.int IntKind.i64 n565) ∧
 ∃ (n566 : Int),
 w'562.cell? (Addr.mk b52 1 none) = some (Value.int IntKind.i64 n566) ∧
 ∃ (s567 : ByteArray),
 w'562.cell? (Addr.mk b52 2 none) = some (Value.string s567) ∧
 ∃ (n568 : Int),
 w'562.cell? (Addr.mk b540 0 none) = some (Value.int IntKind.i64 n568) ∧
 ∃ (n569 : Int),
 w'562.cell? (Addr.mk b540 1 none) = some (Value.int IntKind.i64 n569) ∧
 ∃ (s570 : ByteArray),
 w'562.cell? (Addr.mk b540 2 none) = some (Value.string s570) ∧
 ((n565 ≠ n568 ∨ n566 ≠ n569 ∨ s567 ≠ s570) ∨ decide (n51 = 0) ≠ decide (n558 = 0) → R (Ending.returned (Value.bool false)) w'562) ∧
 ((n565 = n568 ∧ n566 = n569 ∧ s567 = s570) ∧ decide (n51 = 0) = decide (n558 = 0) →
 ∃ (n573 : Int),
 w'562.cell? (Addr.mk b1_1 0 none) = some (Value.int IntKind.i64 n573) ∧
 ∃ (s574 : ByteArray),
 w'562.cell? (Addr.mk b1_1 1 none) = some (Value.string s574) ∧
 ∃ (n575 : Int),
 w'562.cell? (Addr.mk b1_1 2 none) = some (Value.int IntKind.i64 n575) ∧
 ∃ (n576 : Int),
 w'562.cell? (Addr.mk b1_1 3 none) = some (Value.int IntKind.i64 n576) ∧
 ∃ (s577 : ByteArray),
 w'562.cell? (Addr.mk b1_1 4 none) = some (Value.string s577) ∧
 ∃ (p578 : Option Addr),
 ∃ (n579 : Nat),
 ∃ (c580 : Nat),
 w'562.cell? (Addr.mk b1_1 5 none) = some (Value.slice p578 n579 c580) ∧
 ∃ (n581 : Int),
 w'562.cell? (Addr.mk b4_1 0 none) = some (Value.int IntKind.i64 n581) ∧
 ∃ (s582 : ByteArray),
 w'562.cell? (Addr.mk b4_1 1 none) = some (Value.string s582) ∧
 ∃ (n583 : Int),
 w'562.cell? (Addr.mk b4_1 2 none) = some (Value.int IntKind.i64 n583) ∧
 ∃ (n584 : Int),
 w'562.cell? (Addr.mk b4_1 3 none) = some (Value.int IntKind.i64 n584) ∧
 ∃ (s585 : ByteArray),
 w'562.cell? (Addr.mk b4_1 4 none) = some (Value.string s585) ∧
 ∃ (p586 : Option Addr),
 ∃ (n587 : Nat),
 ∃ (c588 : Nat),
 w'562.cell? (Addr.mk b4_1 5 none) = some (Value.slice p586 n587 c588) ∧
 Calls Tryd.prog 24
 #[Value.int IntKind.i64 10,
 Value.agg #[Value.int IntKind.i64 n573, Value.string s574, Value.int IntKind.i64 n575, Value.int IntKind.i64 n576, Value.string s577, Value.slice p578 n579 c580],
 Value.agg #[Value.int IntKind.i64 n581, Value.string s582, Value.int IntKind.i64 n583, Value.int IntKind.i64 n584, Value.string s585, Value.slice p586 n587 c588]]
 w'562 fun (e589 : Ending) (w590 : World) ↦
 ∃ (n591 : Int),
 ∃ (s592 : ByteArray),
 ∃ (n593 : Int),
 ∃ (n594 : Int),
 ∃ (s595 : ByteArray),
 ∃ (p596 : Option Addr),
 ∃ (n597 : Nat),
 ∃ (c598 : Nat),
 e589 =
 Ending.returned
 (Value.agg #[Value.int IntKind.i64 n591, Value.string s592, Value.int IntKind.i64 n593, Value.int IntKind.i64 n594, Value.string s595, Value.slice p596 n597 c598]) ∧
 Calls Tryd.prog 16
 #[Value.slice cols_p cols_n cols_c, Value.slice row_p row_n row_c,
 Value.agg #[Value.int IntKind.i64 n591, Value.string s592, Value.int IntKind.i64 n593, Value.int IntKind.i64 n594, Value.string s595, Value.slice p596 n597 c598]]
 w590 fun (e599 : Ending) (w600 : World) ↦
 ∃ (n601 : Int),
 ∃ (n602 : Int),
 ∃ (s603 : ByteArray),
 ∃ (n604 : Int),
 e599 = Ending.returned (Value.tuple #[Value.agg #[Value.int IntKind.i64 n601, Value.int IntKind.i64 n602, Value.string s603], Value.int IntKind.i64 n604]) ∧
 (∃ (u605 : Value), w600.cell? (Addr.mk b52 0 none) = some u605) ∧
 w600.frozen? (Addr.mk b52 0 none) = false ∧
 (∃ (u606 : Value), w600.cell? (Addr.mk b52 1 none) = some u606) ∧
 w600.frozen? (Addr.mk b52 1 none) = false ∧
 (∃ (u607 : Value), w600.cell? (Addr.mk b52 2 none) = some u607) ∧
 w600.frozen? (Addr.mk b52 2 none) = false ∧
 ∀ (w'608 : World),
 Put w600 b52 0 [Value.int IntKind.i64 n601, Value.int IntKind.i64 n602, Value.string s603] w'608 →
 ∃ (n610 : Int),
 w'608.cell? (Addr.mk b4_1 0 none) = some (Value.int IntKind.i64 n610) ∧
 ∃ (s611 : ByteArray),
 w'608.cell? (Addr.mk b4_1 1 none) = some (Value.string s611) ∧
 ∃ (n612 : Int),
 w'608.cell? (Addr.mk b4_1 2 none) = some (Value.int IntKind.i64 n612) ∧
 ∃ (n613 : Int),
 w'608.cell? (Addr.mk b4_1 3 none) = some (Value.int IntKind.i64 n613) ∧
 ∃ (s614 : ByteArray),
 w'608.cell? (Addr.mk b4_1 4 none) = some (Value.string s614) ∧
 ∃ (p615 : Option Addr),
 ∃ (n616 : Nat),
 ∃ (c617 : Nat),
 w'608.cell? (Addr.mk b4_1 5 none) = some (Value.slice p615 n616 c617) ∧
 ∃ (n618 : Int),
 w'608.cell? (Addr.mk b1_1 0 none) = some (Value.int IntKind.i64 n618) ∧
 ∃ (s619 : ByteArray),
 w'608.cell? (Addr.mk b1_1 1 none) = some (Value.string s619) ∧
 ∃ (n620 : Int),
 w'608.cell? (Addr.mk b1_1 2 none) = some (Value.int IntKind.i64 n620) ∧
 ∃ (n621 : Int),
 w'608.cell? (Addr.mk b1_1 3 none) = some (Value.int IntKind.i64 n621) ∧
 ∃ (s622 : ByteArray),
 w'608.cell? (Addr.mk b1_1 4 none) = some (Value.string s622) ∧
 ∃ (p623 : Option Addr),
 ∃ (n624 : Nat),
 ∃ (c625 : Nat),
 w'608.cell? (Addr.mk b1_1 5 none) = some (Value.slice p623 n624 c625) ∧
 Calls Tryd.prog 24
 #[Value.int IntKind.i64 11,
 Value.agg #[Value.int IntKind.i64 n610, Value.string s611, Value.int IntKind.i64 n612, Value.int IntKind.i64 n613, Value.string s614, Value.slice p615 n616 c617],
 Value.agg #[Value.int IntKind.i64 n618, Value.string s619, Value.int IntKind.i64 n620, Value.int IntKind.i64 n621, Value.string s622, Value.slice p623 n624 c625]]
 w'608 fun (e626 : Ending) (w627 : World) ↦
 ∃ (n628 : Int),
 ∃ (s629 : ByteArray),
 ∃ (n630 : Int),
 ∃ (n631 : Int),
 ∃ (s632 : ByteArray),
 ∃ (p633 : Option Addr),
 ∃ (n634 : Nat),
 ∃ (c635 : Nat),
 e626 =
 Ending.returned
 (Value.agg #[Value.int IntKind.i64 n628, Value.string s629, Value.int IntKind.i64 n630, Value.int IntKind.i64 n631, Value.string s632, Value.slice p633 n634 c635]) ∧
 Calls Tryd.prog 23
 #[Value.int IntKind.i64 14,
 Value.agg #[Value.int IntKind.i64 n628, Value.string s629, Value.int IntKind.i64 n630, Value.int IntKind.i64 n631, Value.string s632, Value.slice p633 n634 c635]]
 w627 fun (e636 : Ending) (w637 : World) ↦
 ∃ (n638 : Int),
 ∃ (s639 : ByteArray),
 ∃ (n640 : Int),
 ∃ (n641 : Int),
 ∃ (s642 : ByteArray),
 ∃ (p643 : Option Addr),
 ∃ (n644 : Nat),
 ∃ (c645 : Nat),
 e636 =
 Ending.returned
 (Value.agg #[Value.int IntKind.i64 n638, Value.string s639, Value.int IntKind.i64 n640, Value.int IntKind.i64 n641, Value.string s642, Value.slice p643 n644 c645]) ∧
 Calls Tryd.prog 16
 #[Value.slice cols_p cols_n cols_c, Value.slice row_p row_n row_c,
 Value.agg #[Value.int IntKind.i64 n638, Value.string s639, Value.int IntKind.i64 n640, Value.int IntKind.i64 n641, Value.string s642, Value.slice p643 n644 c645]]
 w637 fun (e646 : Ending) (w647 : World) ↦
 ∃ (n648 : Int),
 ∃ (n649 : Int),
 ∃ (s650 : ByteArray),
 ∃ (n651 : Int),
 e646 = Ending.returned (Value.tuple #[Value.agg #[Value.int IntKind.i64 n648, Value.int IntKind.i64 n649, Value.string s650], Value.int IntKind.i64 n651]) ∧
 (∃ (u652 : Value), w647.cell? (Addr.mk b540 0 none) = some u652) ∧
 w647.frozen? (Addr.mk b540 0 none) = false ∧
 (∃ (u653 : Value), w647.cell? (Addr.mk b540 1 none) = some u653) ∧
 w647.frozen? (Addr.mk b540 1 none) = false ∧
 (∃ (u654 : Value), w647.cell? (Addr.mk b540 2 none) = some u654) ∧
 w647.frozen? (Addr.mk b540 2 none) = false ∧
 ∀ (w'655 : World),
 Put w647 b540 0 [Value.int IntKind.i64 n648, Value.int IntKind.i64 n649, Value.string s650] w'655 →
 (n604 ≠ 0 ∨ n651 ≠ 0 →
 (b9 = true → R (Ending.returned (Value.bool (!decide (n604 = 0) && !decide (n651 = 0) || decide (n604 = 122) || decide (n651 = 122)))) w'655) ∧
 (b9 = false → R (Ending.returned (Value.bool false)) w'655)) ∧
 (n604 = 0 ∧ n651 = 0 →
 (b9 = true →
 ∃ (n662 : Int),
 w'655.cell? (Addr.mk b52 0 none) = some (Value.int IntKind.i64 n662) ∧
 ∃ (n663 : Int),
 w'655.cell? (Addr.mk b52 1 none) = some (Value.int IntKind.i64 n663) ∧
 ∃ (s664 : ByteArray),
 w'655.cell? (Addr.mk b52 2 none) = some (Value.string s664) ∧
 ∃ (n665 : Int),
 w'655.cell? (Addr.mk b540 0 none) = some (Value.int IntKind.i64 n665) ∧
 ∃ (n666 : Int),
 w'655.cell? (Addr.mk b540 1 none) = some (Value.int IntKind.i64 n666) ∧
 ∃ (s667 : ByteArray),
 w'655.cell? (Addr.mk b540 2 none) = some (Value.string s667) ∧ R (Ending.returned (Value.bool (decide (n662 = n665) && (decide (n663 = n666) && sEq s664 s667)))) w'655) ∧
 (b9 = false → R (Ending.returned (Value.bool false)) w'655)))) ∧
 (n51 = 122 ∨ n558 = 122 →
 ∃ (n670 : Int),
 w'562.cell? (Addr.mk b1_1 0 none) = some (Value.int IntKind.i64 n670) ∧
 ∃ (s671 : ByteArray),
 w'562.cell? (Addr.mk b1_1 1 none) = some (Value.string s671) ∧
 ∃ (n672 : Int),
 w'562.cell? (Addr.mk b1_1 2 none) = some (Value.int IntKind.i64 n672) ∧
 ∃ (n673 : Int),
 w'562.cell? (Addr.mk b1_1 3 none) = some (Value.int IntKind.i64 n673) ∧
 ∃ (s674 : ByteArray),
 w'562.cell? (Addr.mk b1_1 4 none) = some (Value.string s674) ∧
 ∃ (p675 : Option Addr),
 ∃ (n676 : Nat),
 ∃ (c677 : Nat),
 w'562.cell? (Addr.mk b1_1 5 none) = some (Value.slice p675 n676 c677) ∧
 ∃ (n678 : Int),
 w'562.cell? (Addr.mk b4_1 0 none) = some (Value.int IntKind.i64 n678) ∧
 ∃ (s679 : ByteArray),
 w'562.cell? (Addr.mk b4_1 1 none) = some (Value.string s679) ∧
 ∃ (n680 : Int),
 w'562.cell? (Addr.mk b4_1 2 none) = some (Value.int IntKind.i64 n680) ∧
 ∃ (n681 : Int),
 w'562.cell? (Addr.mk b4_1 3 none) = some (Value.int IntKind.i64 n681) ∧
 ∃ (s682 : ByteArray),
 w'562.cell? (Addr.mk b4_1 4 none) = some (Value.string s682) ∧
 ∃ (p683 : Option Addr),
 ∃ (n684 : Nat),
 ∃ (c685 : Nat),
 w'562.cell? (Addr.mk b4_1 5 none) = some (Value.slice p683 n684 c685) ∧
 Calls Tryd.prog 24
 #[Value.int IntKind.i64 10,
 Value.agg #[Value.int IntKind.i64 n670, Value.string s671, Value.int IntKind.i64 n672, Value.int IntKind.i64 n673, Value.string s674, Value.slice p675 n676 c677],
 Value.agg #[Value.int IntKind.i64 n678, Value.string s679, Value.int IntKind.i64 n680, Value.int IntKind.i64 n681, Value.string s682, Value.slice p683 n684 c685]]
 w'562 fun (e686 : Ending) (w687 : World) ↦
 ∃ (n688 : Int),
 ∃ (s689 : ByteArray),
 ∃ (n690 : Int),
 ∃ (n691 : Int),
 ∃ (s692 : ByteArray),
 ∃ (p693 : Option Addr),
 ∃ (n694 : Nat),
 ∃ (c695 : Nat),
 e686 =
 Ending.returned
 (Value.agg #[Value.int IntKind.i64 n688, Value.string s689, Value.int IntKind.i64 n690, Value.int IntKind.i64 n691, Value.string s692, Value.slice p693 n694 c695]) ∧
 Calls Tryd.prog 16
 #[Value.slice cols_p cols_n cols_c, Value.slice row_p row_n row_c,
 Value.agg #[Value.int IntKind.i64 n688, Value.string s689, Value.int IntKind.i64 n690, Value.int IntKind.i64 n691, Value.string s692, Value.slice p693 n694 c695]]
 w687 fun (e696 : Ending) (w697 : World) ↦
 ∃ (n698 : Int),
 ∃ (n699 : Int),
 ∃ (s700 : ByteArray),
 ∃ (n701 : Int),
 e696 = Ending.returned (Value.tuple #[Value.agg #[Value.int IntKind.i64 n698, Value.int IntKind.i64 n699, Value.string s700], Value.int IntKind.i64 n701]) ∧
 (∃ (u702 : Value), w697.cell? (Addr.mk b52 0 none) = some u702) ∧
 w697.frozen? (Addr.mk b52 0 none) = false ∧
 (∃ (u703 : Value), w697.cell? (Addr.mk b52 1 none) = some u703) ∧
 w697.frozen? (Addr.mk b52 1 none) = false ∧
 (∃ (u704 : Value), w697.cell? (Addr.mk b52 2 none) = some u704) ∧
 w697.frozen? (Addr.mk b52 2 none) = false ∧
 ∀ (w'705 : World),
 Put w697 b52 0 [Value.int IntKind.i64 n698, Value.int IntKind.i64 n699, Value.string s700] w'705 →
 ∃ (n707 : Int),
 w'705.cell? (Addr.mk b4_1 0 none) = some (Value.int IntKind.i64 n707) ∧
 ∃ (s708 : ByteArray),
 w'705.cell? (Addr.mk b4_1 1 none) = some (Value.string s708) ∧
 ∃ (n709 : Int),
 w'705.cell? (Addr.mk b4_1 2 none) = some (Value.int IntKind.i64 n709) ∧
 ∃ (n710 : Int),
 w'705.cell? (Addr.mk b4_1 3 none) = some (Value.int IntKind.i64 n710) ∧
 ∃ (s711 : ByteArray),
 w'705.cell? (Addr.mk b4_1 4 none) = some (Value.string s711) ∧
 ∃ (p712 : Option Addr),
 ∃ (n713 : Nat),
 ∃ (c714 : Nat),
 w'705.cell? (Addr.mk b4_1 5 none) = some (Value.slice p712 n713 c714) ∧
 ∃ (n715 : Int),
 w'705.cell? (Addr.mk b1_1 0 none) = some (Value.int IntKind.i64 n715) ∧
 ∃ (s716 : ByteArray),
 w'705.cell? (Addr.mk b1_1 1 none) = some (Value.string s716) ∧
 ∃ (n717 : Int),
 w'705.cell? (Addr.mk b1_1 2 none) = some (Value.int IntKind.i64 n717) ∧
 ∃ (n718 : Int),
 w'705.cell? (Addr.mk b1_1 3 none) = some (Value.int IntKind.i64 n718) ∧
 ∃ (s719 : ByteArray),
 w'705.cell? (Addr.mk b1_1 4 none) = some (Value.string s719) ∧
 ∃ (p720 : Option Addr),
 ∃ (n721 : Nat),
 ∃ (c722 : Nat),
 w'705.cell? (Addr.mk b1_1 5 none) = some (Value.slice p720 n721 c722) ∧
 Calls Tryd.prog 24
 #[Value.int IntKind.i64 11,
 Value.agg #[Value.int IntKind.i64 n707, Value.string s708, Value.int IntKind.i64 n709, Value.int IntKind.i64 n710, Value.string s711, Value.slice p712 n713 c714],
 Value.agg #[Value.int IntKind.i64 n715, Value.string s716, Value.int IntKind.i64 n717, Value.int IntKind.i64 n718, Value.string s719, Value.slice p720 n721 c722]]
 w'705 fun (e723 : Ending) (w724 : World) ↦
 ∃ (n725 : Int),
 ∃ (s726 : ByteArray),
 ∃ (n727 : Int),
 ∃ (n728 : Int),
 ∃ (s729 : ByteArray),
 ∃ (p730 : Option Addr),
 ∃ (n731 : Nat),
 ∃ (c732 : Nat),
 e723 =
 Ending.returned
 (Value.agg #[Value.int IntKind.i64 n725, Value.string s726, Value.int IntKind.i64 n727, Value.int IntKind.i64 n728, Value.string s729, Value.slice p730 n731 c732]) ∧
 Calls Tryd.prog 23
 #[Value.int IntKind.i64 14,
 Value.agg #[Value.int IntKind.i64 n725, Value.string s726, Value.int IntKind.i64 n727, Value.int IntKind.i64 n728, Value.string s729, Value.slice p730 n731 c732]]
 w724 fun (e733 : Ending) (w734 : World) ↦
 ∃ (n735 : Int),
 ∃ (s736 : ByteArray),
 ∃ (n737 : Int),
 ∃ (n738 : Int),
 ∃ (s739 : ByteArray),
 ∃ (p740 : Option Addr),
 ∃ (n741 : Nat),
 ∃ (c742 : Nat),
 e733 =
 Ending.returned
 (Value.agg #[Value.int IntKind.i64 n735, Value.string s736, Value.int IntKind.i64 n737, Value.int IntKind.i64 n738, Value.string s739, Value.slice p740 n741 c742]) ∧
 Calls Tryd.prog 16
 #[Value.slice cols_p cols_n cols_c, Value.slice row_p row_n row_c,
 Value.agg #[Value.int IntKind.i64 n735, Value.string s736, Value.int IntKind.i64 n737, Value.int IntKind.i64 n738, Value.string s739, Value.slice p740 n741 c742]]
 w734 fun (e743 : Ending) (w744 : World) ↦
 ∃ (n745 : Int),
 ∃ (n746 : Int),
 ∃ (s747 : ByteArray),
 ∃ (n748 : Int),
 e743 = Ending.returned (Value.tuple #[Value.agg #[Value.int IntKind.i64 n745, Value.int IntKind.i64 n746, Value.string s747], Value.int IntKind.i64 n748]) ∧
 (∃ (u749 : Value), w744.cell? (Addr.mk b540 0 none) = some u749) ∧
 w744.frozen? (Addr.mk b540 0 none) = false ∧
 (∃ (u750 : Value), w744.cell? (Addr.mk b540 1 none) = some u750) ∧
 w744.frozen? (Addr.mk b540 1 none) = false ∧
 (∃ (u751 : Value), w744.cell? (Addr.mk b540 2 none) = some u751) ∧
 w744.frozen? (Addr.mk b540 2 none) = false ∧
 ∀ (w'752 : World),
 Put w744 b540 0 [Value.int IntKind.i64 n745, Value.int IntKind.i64 n746, Value.string s747] w'752 →
 (n701 ≠ 0 ∨ n748 ≠ 0 →
 (b9 = true → R (Ending.returned (Value.bool (!decide (n701 = 0) && !decide (n748 = 0) || decide (n701 = 122) || decide (n748 = 122)))) w'752) ∧
 (b9 = false → R (Ending.returned (Value.bool false)) w'752)) ∧
 (n701 = 0 ∧ n748 = 0 →
 (b9 = true →
 ∃ (n759 : Int),
 w'752.cell? (Addr.mk b52 0 none) = some (Value.int IntKind.i64 n759) ∧
 ∃ (n760 : Int),
 w'752.cell? (Addr.mk b52 1 none) = some (Value.int IntKind.i64 n760) ∧
 ∃ (s761 : ByteArray),
 w'752.cell? (Addr.mk b52 2 none) = some (Value.string s761) ∧
 ∃ (n762 : Int),
 w'752.cell? (Addr.mk b540 0 none) = some (Value.int IntKind.i64 n762) ∧
 ∃ (n763 : Int),
 w'752.cell? (Addr.mk b540 1 none) = some (Value.int IntKind.i64 n763) ∧
 ∃ (s764 : ByteArray),
 w'752.cell? (Addr.mk b540 2 none) = some (Value.string s764) ∧ R (Ending.returned (Value.bool (decide (n759 = n762) && (decide (n760 = n763) && sEq s761 s764)))) w'752) ∧
 (b9 = false → R (Ending.returned (Value.bool false)) w'752)))) ∧
 ∀ (b766 : Nat) (w'767 : World),
 New w79 (Obj.cells #[Value.int IntKind.i64 0, Value.int IntKind.i64 0, Value.string (ByteArray.mk #[])] 26) b766 w'767 →
 Same w79 w'767 ∧
 Calls Tryd.prog 23
 #[Value.int IntKind.i64 14,
 Value.agg #[Value.int IntKind.i64 n70, Value.string s71, Value.int IntKind.i64 n72, Value.int IntKind.i64 n73, Value.string s74, Value.slice p75 n76 c77]]
 w'767 fun (e769 : Ending) (w770 : World) ↦
 ∃ (n771 : Int),
 ∃ (s772 : ByteArray),
 ∃ (n773 : Int),
 ∃ (n774 : Int),
 ∃ (s775 : ByteArray),
 ∃ (p776 : Option Addr),
 ∃ (n777 : Nat),
 ∃ (c778 : Nat),
 e769 =
 Ending.returned
 (Value.agg #[Value.int IntKind.i64 n771, Value.string s772, Value.int IntKind.i64 n773, Value.int IntKind.i64 n774, Value.string s775, Value.slice p776 n777 c778]) ∧
 Calls Tryd.prog 24
 #[Value.int IntKind.i64 13,
 Value.agg #[Value.int IntKind.i64 n80, Value.string s81, Value.int IntKind.i64 n82, Value.int IntKind.i64 n83, Value.string s84, Value.slice p85 n86 c87],
 Value.agg #[Value.int IntKind.i64 n771, Value.string s772, Value.int IntKind.i64 n773, Value.int IntKind.i64 n774, Value.string s775, Value.slice p776 n777 c778]]
 w770 fun (e779 : Ending) (w780 : World) ↦
 ∃ (n781 : Int),
 ∃ (s782 : ByteArray),
 ∃ (n783 : Int),
 ∃ (n784 : Int),
 ∃ (s785 : ByteArray),
 ∃ (p786 : Option Addr),
 ∃ (n787 : Nat),
 ∃ (c788 : Nat),
 e779 =
 Ending.returned
 (Value.agg #[Value.int IntKind.i64 n781, Value.string s782, Value.int IntKind.i64 n783, Value.int IntKind.i64 n784, Value.string s785, Value.slice p786 n787 c788]) ∧
 Calls Tryd.prog 16
 #[Value.slice cols_p cols_n cols_c, Value.slice row_p row_n row_c,
 Value.agg #[Value.int IntKind.i64 n781, Value.string s782, Value.int IntKind.i64 n783, Value.int IntKind.i64 n784, Value.string s785, Value.slice p786 n787 c788]]
 w780 fun (e789 : Ending) (w790 : World) ↦
 ∃ (n791 : Int),
 ∃ (n792 : Int),
 ∃ (s793 : ByteArray),
 ∃ (n794 : Int),
 e789 = Ending.returned (Value.tuple #[Value.agg #[Value.int IntKind.i64 n791, Value.int IntKind.i64 n792, Value.string s793], Value.int IntKind.i64 n794]) ∧
 (∃ (u795 : Value), w790.cell? (Addr.mk b766 0 none) = some u795) ∧
 w790.frozen? (Addr.mk b766 0 none) = false ∧
 (∃ (u796 : Value), w790.cell? (Addr.mk b766 1 none) = some u796) ∧
 w790.frozen? (Addr.mk b766 1 none) = false ∧
 (∃ (u797 : Value), w790.cell? (Addr.mk b766 2 none) = some u797) ∧
 w790.frozen? (Addr.mk b766 2 none) = false ∧
 ∀ (w'798 : World),
 Put w790 b766 0 [Value.int IntKind.i64 n791, Value.int IntKind.i64 n792, Value.string s793] w'798 →
 (n51 ≠ 122 ∧ n794 ≠ 122 →
 ∃ (n801 : Int),
 w'798.cell? (Addr.mk b52 0 none) = some (Value.int IntKind.i64 n801) ∧
 ∃ (n802 : Int),
 w'798.cell? (Addr.mk b52 1 none) = some (Value.int IntKind.i64 n802) ∧
 ∃ (s803 : ByteArray),
 w'798.cell? (Addr.mk b52 2 none) = some (Value.string s803) ∧
 ∃ (n804 : Int),
 w'798.cell? (Addr.mk b766 0 none) = some (Value.int IntKind.i64 n804) ∧
 ∃ (n805 : Int),
 w'798.cell? (Addr.mk b766 1 none) = some (Value.int IntKind.i64 n805) ∧
 ∃ (s806 : ByteArray),
 w'798.cell? (Addr.mk b766 2 none) = some (Value.string s806) ∧
 ((n801 ≠ n804 ∨ n802 ≠ n805 ∨ s803 ≠ s806) ∨ decide (n51 = 0) ≠ decide (n794 = 0) → R (Ending.returned (Value.bool false)) w'798) ∧
 ((n801 = n804 ∧ n802 = n805 ∧ s803 = s806) ∧ decide (n51 = 0) = decide (n794 = 0) →
 ∃ (n809 : Int),
 w'798.cell? (Addr.mk b1_1 0 none) = some (Value.int IntKind.i64 n809) ∧
 ∃ (s810 : ByteArray),
 w'798.cell? (Addr.mk b1_1 1 none) = some (Value.string s810) ∧
 ∃ (n811 : Int),
 w'798.cell? (Addr.mk b1_1 2 none) = some (Value.int IntKind.i64 n811) ∧
 ∃ (n812 : Int),
 w'798.cell? (Addr.mk b1_1 3 none) = some (Value.int IntKind.i64 n812) ∧
 ∃ (s813 : ByteArray),
 w'798.cell? (Addr.mk b1_1 4 none) = some (Value.string s813) ∧
 ∃ (p814 : Option Addr),
 ∃ (n815 : Nat),
 ∃ (c816 : Nat),
 w'798.cell? (Addr.mk b1_1 5 none) = some (Value.slice p814 n815 c816) ∧
 ∃ (n817 : Int),
 w'798.cell? (Addr.mk b4_1 0 none) = some (Value.int IntKind.i64 n817) ∧
 ∃ (s818 : ByteArray),
 w'798.cell? (Addr.mk b4_1 1 none) = some (Value.string s818) ∧
 ∃ (n819 : Int),
 w'798.cell? (Addr.mk b4_1 2 none) = some (Value.int IntKind.i64 n819) ∧
 ∃ (n820 : Int),
 w'798.cell? (Addr.mk b4_1 3 none) = some (Value.int IntKind.i64 n820) ∧
 ∃ (s821 : ByteArray),
 w'798.cell? (Addr.mk b4_1 4 none) = some (Value.string s821) ∧
 ∃ (p822 : Option Addr),
 ∃ (n823 : Nat),
 ∃ (c824 : Nat),
 w'798.cell? (Addr.mk b4_1 5 none) = some (Value.slice p822 n823 c824) ∧
 Calls Tryd.prog 24
 #[Value.int IntKind.i64 10,
 Value.agg #[Value.int IntKind.i64 n809, Value.string s810, Value.int IntKind.i64 n811, Value.int IntKind.i64 n812, Value.string s813, Value.slice p814 n815 c816],
 Value.agg #[Value.int IntKind.i64 n817, Value.string s818, Value.int IntKind.i64 n819, Value.int IntKind.i64 n820, Value.string s821, Value.slice p822 n823 c824]]
 w'798 fun (e825 : Ending) (w826 : World) ↦
 ∃ (n827 : Int),
 ∃ (s828 : ByteArray),
 ∃ (n829 : Int),
 ∃ (n830 : Int),
 ∃ (s831 : ByteArray),
 ∃ (p832 : Option Addr),
 ∃ (n833 : Nat),
 ∃ (c834 : Nat),
 e825 =
 Ending.returned
 (Value.agg #[Value.int IntKind.i64 n827, Value.string s828, Value.int IntKind.i64 n829, Value.int IntKind.i64 n830, Value.string s831, Value.slice p832 n833 c834]) ∧
 Calls Tryd.prog 16
 #[Value.slice cols_p cols_n cols_c, Value.slice row_p row_n row_c,
 Value.agg #[Value.int IntKind.i64 n827, Value.string s828, Value.int IntKind.i64 n829, Value.int IntKind.i64 n830, Value.string s831, Value.slice p832 n833 c834]]
 w826 fun (e835 : Ending) (w836 : World) ↦
 ∃ (n837 : Int),
 ∃ (n838 : Int),
 ∃ (s839 : ByteArray),
 ∃ (n840 : Int),
 e835 = Ending.returned (Value.tuple #[Value.agg #[Value.int IntKind.i64 n837, Value.int IntKind.i64 n838, Value.string s839], Value.int IntKind.i64 n840]) ∧
 (∃ (u841 : Value), w836.cell? (Addr.mk b52 0 none) = some u841) ∧
 w836.frozen? (Addr.mk b52 0 none) = false ∧
 (∃ (u842 : Value), w836.cell? (Addr.mk b52 1 none) = some u842) ∧
 w836.frozen? (Addr.mk b52 1 none) = false ∧
 (∃ (u843 : Value), w836.cell? (Addr.mk b52 2 none) = some u843) ∧
 w836.frozen? (Addr.mk b52 2 none) = false ∧
 ∀ (w'844 : World),
 Put w836 b52 0 [Value.int IntKind.i64 n837, Value.int IntKind.i64 n838, Value.string s839] w'844 →
 ∃ (n846 : Int),
 w'844.cell? (Addr.mk b4_1 0 none) = some (Value.int IntKind.i64 n846) ∧
 ∃ (s847 : ByteArray),
 w'844.cell? (Addr.mk b4_1 1 none) = some (Value.string s847) ∧
 ∃ (n848 : Int),
 w'844.cell? (Addr.mk b4_1 2 none) = some (Value.int IntKind.i64 n848) ∧
 ∃ (n849 : Int),
 w'844.cell? (Addr.mk b4_1 3 none) = some (Value.int IntKind.i64 n849) ∧
 ∃ (s850 : ByteArray),
 w'844.cell? (Addr.mk b4_1 4 none) = some (Value.string s850) ∧
 ∃ (p851 : Option Addr),
 ∃ (n852 : Nat),
 ∃ (c853 : Nat),
 w'844.cell? (Addr.mk b4_1 5 none) = some (Value.slice p851 n852 c853) ∧
 ∃ (n854 : Int),
 w'844.cell? (Addr.mk b1_1 0 none) = some (Value.int IntKind.i64 n854) ∧
 ∃ (s855 : ByteArray),
 w'844.cell? (Addr.mk b1_1 1 none) = some (Value.string s855) ∧
 ∃ (n856 : Int),
 w'844.cell? (Addr.mk b1_1 2 none) = some (Value.int IntKind.i64 n856) ∧
 ∃ (n857 : Int),
 w'844.cell? (Addr.mk b1_1 3 none) = some (Value.int IntKind.i64 n857) ∧
 ∃ (s858 : ByteArray),
 w'844.cell? (Addr.mk b1_1 4 none) = some (Value.string s858) ∧
 ∃ (p859 : Option Addr),
 ∃ (n860 : Nat),
 ∃ (c861 : Nat),
 w'844.cell? (Addr.mk b1_1 5 none) = some (Value.slice p859 n860 c861) ∧
 Calls Tryd.prog 24
 #[Value.int IntKind.i64 11,
 Value.agg #[Value.int IntKind.i64 n846, Value.string s847, Value.int IntKind.i64 n848, Value.int IntKind.i64 n849, Value.string s850, Value.slice p851 n852 c853],
 Value.agg #[Value.int IntKind.i64 n854, Value.string s855, Value.int IntKind.i64 n856, Value.int IntKind.i64 n857, Value.string s858, Value.slice p859 n860 c861]]
 w'844 fun (e862 : Ending) (w863 : World) ↦
 ∃ (n864 : Int),
 ∃ (s865 : ByteArray),
 ∃ (n866 : Int),
 ∃ (n867 : Int),
 ∃ (s868 : ByteArray),
 ∃ (p869 : Option Addr),
 ∃ (n870 : Nat),
 ∃ (c871 : Nat),
 e862 =
 Ending.returned
 (Value.agg #[Value.int IntKind.i64 n864, Value.string s865, Value.int IntKind.i64 n866, Value.int IntKind.i64 n867, Value.string s868, Value.slice p869 n870 c871]) ∧
 Calls Tryd.prog 23
 #[Value.int IntKind.i64 14,
 Value.agg #[Value.int IntKind.i64 n864, Value.string s865, Value.int IntKind.i64 n866, Value.int IntKind.i64 n867, Value.string s868, Value.slice p869 n870 c871]]
 w863 fun (e872 : Ending) (w873 : World) ↦
 ∃ (n874 : Int),
 ∃ (s875 : ByteArray),
 ∃ (n876 : Int),
 ∃ (n877 : Int),
 ∃ (s878 : ByteArray),
 ∃ (p879 : Option Addr),
 ∃ (n880 : Nat),
 ∃ (c881 : Nat),
 e872 =
 Ending.returned
 (Value.agg #[Value.int IntKind.i64 n874, Value.string s875, Value.int IntKind.i64 n876, Value.int IntKind.i64 n877, Value.string s878, Value.slice p879 n880 c881]) ∧
 Calls Tryd.prog 16
 #[Value.slice cols_p cols_n cols_c, Value.slice row_p row_n row_c,
 Value.agg #[Value.int IntKind.i64 n874, Value.string s875, Value.int IntKind.i64 n876, Value.int IntKind.i64 n877, Value.string s878, Value.slice p879 n880 c881]]
 w873 fun (e882 : Ending) (w883 : World) ↦
 ∃ (n884 : Int),
 ∃ (n885 : Int),
 ∃ (s886 : ByteArray),
 ∃ (n887 : Int),
 e882 = Ending.returned (Value.tuple #[Value.agg #[Value.int IntKind.i64 n884, Value.int IntKind.i64 n885, Value.string s886], Value.int IntKind.i64 n887]) ∧
 (∃ (u888 : Value), w883.cell? (Addr.mk b766 0 none) = some u888) ∧
 w883.frozen? (Addr.mk b766 0 none) = false ∧
 (∃ (u889 : Value), w883.cell? (Addr.mk b766 1 none) = some u889) ∧
 w883.frozen? (Addr.mk b766 1 none) = false ∧
 (∃ (u890 : Value), w883.cell? (Addr.mk b766 2 none) = some u890) ∧
 w883.frozen? (Addr.mk b766 2 none) = false ∧
 ∀ (w'891 : World),
 Put w883 b766 0 [Value.int IntKind.i64 n884, Value.int IntKind.i64 n885, Value.string s886] w'891 →
 (n840 ≠ 0 ∨ n887 ≠ 0 →
 (b9 = true → R (Ending.returned (Value.bool (!decide (n840 = 0) && !decide (n887 = 0) || decide (n840 = 122) || decide (n887 = 122)))) w'891) ∧
 (b9 = false → R (Ending.returned (Value.bool false)) w'891)) ∧
 (n840 = 0 ∧ n887 = 0 →
 (b9 = true →
 ∃ (n898 : Int),
 w'891.cell? (Addr.mk b52 0 none) = some (Value.int IntKind.i64 n898) ∧
 ∃ (n899 : Int),
 w'891.cell? (Addr.mk b52 1 none) = some (Value.int IntKind.i64 n899) ∧
 ∃ (s900 : ByteArray),
 w'891.cell? (Addr.mk b52 2 none) = some (Value.string s900) ∧
 ∃ (n901 : Int),
 w'891.cell? (Addr.mk b766 0 none) = some (Value.int IntKind.i64 n901) ∧
 ∃ (n902 : Int),
 w'891.cell? (Addr.mk b766 1 none) = some (Value.int IntKind.i64 n902) ∧
 ∃ (s903 : ByteArray),
 w'891.cell? (Addr.mk b766 2 none) = some (Value.string s903) ∧ R (Ending.returned (Value.bool (decide (n898 = n901) && (decide (n899 = n902) && sEq s900 s903)))) w'891) ∧
 (b9 = false → R (Ending.returned (Value.bool false)) w'891)))) ∧
 (n51 = 122 ∨ n794 = 122 →
 ∃ (n906 : Int),
 w'798.cell? (Addr.mk b1_1 0 none) = some (Value.int IntKind.i64 n906) ∧
 ∃ (s907 : ByteArray),
 w'798.cell? (Addr.mk b1_1 1 none) = some (Value.string s907) ∧
 ∃ (n908 : Int),
 w'798.cell? (Addr.mk b1_1 2 none) = some (Value.int IntKind.i64 n908) ∧
 ∃ (n909 : Int),
 w'798.cell? (Addr.mk b1_1 3 none) = some (Value.int IntKind.i64 n909) ∧
 ∃ (s910 : ByteArray),
 w'798.cell? (Addr.mk b1_1 4 none) = some (Value.string s910) ∧
 ∃ (p911 : Option Addr),
 ∃ (n912 : Nat),
 ∃ (c913 : Nat),
 w'798.cell? (Addr.mk b1_1 5 none) = some (Value.slice p911 n912 c913) ∧
 ∃ (n914 : Int),
 w'798.cell? (Addr.mk b4_1 0 none) = some (Value.int IntKind.i64 n914) ∧
 ∃ (s915 : ByteArray),
 w'798.cell? (Addr.mk b4_1 1 none) = some (Value.string s915) ∧
 ∃ (n916 : Int),
 w'798.cell? (Addr.mk b4_1 2 none) = some (Value.int IntKind.i64 n916) ∧
 ∃ (n917 : Int),
 w'798.cell? (Addr.mk b4_1 3 none) = some (Value.int IntKind.i64 n917) ∧
 ∃ (s918 : ByteArray),
 w'798.cell? (Addr.mk b4_1 4 none) = some (Value.string s918) ∧
 ∃ (p919 : Option Addr),
 ∃ (n920 : Nat),
 ∃ (c921 : Nat),
 w'798.cell? (Addr.mk b4_1 5 none) = some (Value.slice p919 n920 c921) ∧
 Calls Tryd.prog 24
 #[Value.int IntKind.i64 10,
 Value.agg #[Value.int IntKind.i64 n906, Value.string s907, Value.int IntKind.i64 n908, Value.int IntKind.i64 n909, Value.string s910, Value.slice p911 n912 c913],
 Value.agg #[Value.int IntKind.i64 n914, Value.string s915, Value.int IntKind.i64 n916, Value.int IntKind.i64 n917, Value.string s918, Value.slice p919 n920 c921]]
 w'798 fun (e922 : Ending) (w923 : World) ↦
 ∃ (n924 : Int),
 ∃ (s925 : ByteArray),
 ∃ (n926 : Int),
 ∃ (n927 : Int),
 ∃ (s928 : ByteArray),
 ∃ (p929 : Option Addr),
 ∃ (n930 : Nat),
 ∃ (c931 : Nat),
 e922 =
 Ending.returned
 (Value.agg #[Value.int IntKind.i64 n924, Value.string s925, Value.int IntKind.i64 n926, Value.int IntKind.i64 n927, Value.string s928, Value.slice p929 n930 c931]) ∧
 Calls Tryd.prog 16
 #[Value.slice cols_p cols_n cols_c, Value.slice row_p row_n row_c,
 Value.agg #[Value.int IntKind.i64 n924, Value.string s925, Value.int IntKind.i64 n926, Value.int IntKind.i64 n927, Value.string s928, Value.slice p929 n930 c931]]
 w923 fun (e932 : Ending) (w933 : World) ↦
 ∃ (n934 : Int),
 ∃ (n935 : Int),
 ∃ (s936 : ByteArray),
 ∃ (n937 : Int),
 e932 = Ending.returned (Value.tuple #[Value.agg #[Value.int IntKind.i64 n934, Value.int IntKind.i64 n935, Value.string s936], Value.int IntKind.i64 n937]) ∧
 (∃ (u938 : Value), w933.cell? (Addr.mk b52 0 none) = some u938) ∧
 w933.frozen? (Addr.mk b52 0 none) = false ∧
 (∃ (u939 : Value), w933.cell? (Addr.mk b52 1 none) = some u939) ∧
 w933.frozen? (Addr.mk b52 1 none) = false ∧
 (∃ (u940 : Value), w933.cell? (Addr.mk b52 2 none) = some u940) ∧
 w933.frozen? (Addr.mk b52 2 none) = false ∧
 ∀ (w'941 : World),
 Put w933 b52 0 [Value.int IntKind.i64 n934, Value.int IntKind.i64 n935, Value.string s936] w'941 →
 ∃ (n943 : Int),
 w'941.cell? (Addr.mk b4_1 0 none) = some (Value.int IntKind.i64 n943) ∧
 ∃ (s944 : ByteArray),
 w'941.cell? (Addr.mk b4_1 1 none) = some (Value.string s944) ∧
 ∃ (n945 : Int),
 w'941.cell? (Addr.mk b4_1 2 none) = some (Value.int IntKind.i64 n945) ∧
 ∃ (n946 : Int),
 w'941.cell? (Addr.mk b4_1 3 none) = some (Value.int IntKind.i64 n946) ∧
 ∃ (s947 : ByteArray),
 w'941.cell? (Addr.mk b4_1 4 none) = some (Value.string s947) ∧
 ∃ (p948 : Option Addr),
 ∃ (n949 : Nat),
 ∃ (c950 : Nat),
 w'941.cell? (Addr.mk b4_1 5 none) = some (Value.slice p948 n949 c950) ∧
 ∃ (n951 : Int),
 w'941.cell? (Addr.mk b1_1 0 none) = some (Value.int IntKind.i64 n951) ∧
 ∃ (s952 : ByteArray),
 w'941.cell? (Addr.mk b1_1 1 none) = some (Value.string s952) ∧
 ∃ (n953 : Int),
 w'941.cell? (Addr.mk b1_1 2 none) = some (Value.int IntKind.i64 n953) ∧
 ∃ (n954 : Int),
 w'941.cell? (Addr.mk b1_1 3 none) = some (Value.int IntKind.i64 n954) ∧
 ∃ (s955 : ByteArray),
 w'941.cell? (Addr.mk b1_1 4 none) = some (Value.string s955) ∧
 ∃ (p956 : Option Addr),
 ∃ (n957 : Nat),
 ∃ (c958 : Nat),
 w'941.cell? (Addr.mk b1_1 5 none) = some (Value.slice p956 n957 c958) ∧
 Calls Tryd.prog 24
 #[Value.int IntKind.i64 11,
 Value.agg #[Value.int IntKind.i64 n943, Value.string s944, Value.int IntKind.i64 n945, Value.int IntKind.i64 n946, Value.string s947, Value.slice p948 n949 c950],
 Value.agg #[Value.int IntKind.i64 n951, Value.string s952, Value.int IntKind.i64 n953, Value.int IntKind.i64 n954, Value.string s955, Value.slice p956 n957 c958]]
 w'941 fun (e959 : Ending) (w960 : World) ↦
 ∃ (n961 : Int),
 ∃ (s962 : ByteArray),
 ∃ (n963 : Int),
 ∃ (n964 : Int),
 ∃ (s965 : ByteArray),
 ∃ (p966 : Option Addr),
 ∃ (n967 : Nat),
 ∃ (c968 : Nat),
 e959 =
 Ending.returned
 (Value.agg #[Value.int IntKind.i64 n961, Value.string s962, Value.int IntKind.i64 n963, Value.int IntKind.i64 n964, Value.string s965, Value.slice p966 n967 c968]) ∧
 Calls Tryd.prog 23
 #[Value.int IntKind.i64 14,
 Value.agg #[Value.int IntKind.i64 n961, Value.string s962, Value.int IntKind.i64 n963, Value.int IntKind.i64 n964, Value.string s965, Value.slice p966 n967 c968]]
 w960 fun (e969 : Ending) (w970 : World) ↦
 ∃ (n971 : Int),
 ∃ (s972 : ByteArray),
 ∃ (n973 : Int),
 ∃ (n974 : Int),
 ∃ (s975 : ByteArray),
 ∃ (p976 : Option Addr),
 ∃ (n977 : Nat),
 ∃ (c978 : Nat),
 e969 =
 Ending.returned
 (Value.agg #[Value.int IntKind.i64 n971, Value.string s972, Value.int IntKind.i64 n973, Value.int IntKind.i64 n974, Value.string s975, Value.slice p976 n977 c978]) ∧
 Calls Tryd.prog 16
 #[Value.slice cols_p cols_n cols_c, Value.slice row_p row_n row_c,
 Value.agg #[Value.int IntKind.i64 n971, Value.string s972, Value.int IntKind.i64 n973, Value.int IntKind.i64 n974, Value.string s975, Value.slice p976 n977 c978]]
 w970 fun (e979 : Ending) (w980 : World) ↦
 ∃ (n981 : Int),
 ∃ (n982 : Int),
 ∃ (s983 : ByteArray),
 ∃ (n984 : Int),
 e979 = Ending.returned (Value.tuple #[Value.agg #[Value.int IntKind.i64 n981, Value.int IntKind.i64 n982, Value.string s983], Value.int IntKind.i64 n984]) ∧
 (∃ (u985 : Value), w980.cell? (Addr.mk b766 0 none) = some u985) ∧
 w980.frozen? (Addr.mk b766 0 none) = false ∧
 (∃ (u986 : Value), w980.cell? (Addr.mk b766 1 none) = some u986) ∧
 w980.frozen? (Addr.mk b766 1 none) = false ∧
 (∃ (u987 : Value), w980.cell? (Addr.mk b766 2 none) = some u987) ∧
 w980.frozen? (Addr.mk b766 2 none) = false ∧
 ∀ (w'988 : World),
 Put w980 b766 0 [Value.int IntKind.i64 n981, Value.int IntKind.i64 n982, Value.string s983] w'988 →
 (n937 ≠ 0 ∨ n984 ≠ 0 →
 (b9 = true → R (Ending.returned (Value.bool (!decide (n937 = 0) && !decide (n984 = 0) || decide (n937 = 122) || decide (n984 = 122)))) w'988) ∧
 (b9 = false → R (Ending.returned (Value.bool false)) w'988)) ∧
 (n937 = 0 ∧ n984 = 0 →
 (b9 = true →
 ∃ (n995 : Int),
 w'988.cell? (Addr.mk b52 0 none) = some (Value.int IntKind.i64 n995) ∧
 ∃ (n996 : Int),
 w'988.cell? (Addr.mk b52 1 none) = some (Value.int IntKind.i64 n996) ∧
 ∃ (s997 : ByteArray),
 w'988.cell? (Addr.mk b52 2 none) = some (Value.string s997) ∧
 ∃ (n998 : Int),
 w'988.cell? (Addr.mk b766 0 none) = some (Value.int IntKind.i64 n998) ∧
 ∃ (n999 : Int),
 w'988.cell? (Addr.mk b766 1 none) = some (Value.int IntKind.i64 n999) ∧
 ∃ (s1000 : ByteArray),
 w'988.cell? (Addr.mk b766 2 none) = some (Value.string s1000) ∧
 R (Ending.returned (Value.bool (decide (n995 = n998) && (decide (n996 = n999) && sEq s997 s1000)))) w'988) ∧
 (b9 = false → R (Ending.returned (Value.bool false)) w'988)))) ∧
 ∀ (b1002 : Nat) (w'1003 : World),
 New w'60 (Obj.cells #[Value.int IntKind.i64 0, Value.int IntKind.i64 0, Value.string (ByteArray.mk #[])] 26) b1002 w'1003 →
 Same w'60 w'1003 ∧
 Calls Tryd.prog 23
 #[Value.int IntKind.i64 14,
 Value.agg #[Value.int IntKind.i64 n62, Value.string s63, Value.int IntKind.i64 n64, Value.int IntKind.i64 n65, Value.string s66, Value.slice p67 n68 c69]]
 w'1003 fun (e1005 : Ending) (w1006 : World) ↦
 ∃ (n1007 : Int),
 ∃ (s1008 : ByteArray),
 ∃ (n1009 : Int),
 ∃ (n1010 : Int),
 ∃ (s1011 : ByteArray),
 ∃ (p1012 : Option Addr),
 ∃ (n1013 : Nat),
 ∃ (c1014 : Nat),
 e1005 =
 Ending.returned
 (Value.agg
 #[Value.int IntKind.i64 n1007, Value.string s1008, Value.int IntKind.i64 n1009, Value.int IntKind.i64 n1010, Value.string s1011, Value.slice p1012 n1013 c1014]) ∧
 Same w'1003 w1006 ∧
 Calls Tryd.prog 23
 #[Value.int IntKind.i64 14,
 Value.agg #[Value.int IntKind.i64 n70, Value.string s71, Value.int IntKind.i64 n72, Value.int IntKind.i64 n73, Value.string s74, Value.slice p75 n76 c77]]
 w1006 fun (e1015 : Ending) (w1016 : World) ↦
 ∃ (n1017 : Int),
 ∃ (s1018 : ByteArray),
 ∃ (n1019 : Int),
 ∃ (n1020 : Int),
 ∃ (s1021 : ByteArray),
 ∃ (p1022 : Option Addr),
 ∃ (n1023 : Nat),
 ∃ (c1024 : Nat),
 e1015 =
 Ending.returned
 (Value.agg
 #[Value.int IntKind.i64 n1017, Value.string s1018, Value.int IntKind.i64 n1019, Value.int IntKind.i64 n1020, Value.string s1021, Value.slice p1022 n1023 c1024]) ∧
 Calls Tryd.prog 24
 #[Value.int IntKind.i64 13,
 Value.agg #[Value.int IntKind.i64 n1007, Value.string s1008, Value.int IntKind.i64 n1009, Value.int IntKind.i64 n1010, Value.string s1011, Value.slice p1012 n1013 c1014],
 Value.agg #[Value.int IntKind.i64 n1017, Value.string s1018, Value.int IntKind.i64 n1019, Value.int IntKind.i64 n1020, Value.string s1021, Value.slice p1022 n1023 c1024]]
 w1016 fun (e1025 : Ending) (w1026 : World) ↦
 ∃ (n1027 : Int),
 ∃ (s1028 : ByteArray),
 ∃ (n1029 : Int),
 ∃ (n1030 : Int),
 ∃ (s1031 : ByteArray),
 ∃ (p1032 : Option Addr),
 ∃ (n1033 : Nat),
 ∃ (c1034 : Nat),
 e1025 =
 Ending.returned
 (Value.agg
 #[Value.int IntKind.i64 n1027, Value.string s1028, Value.int IntKind.i64 n1029, Value.int IntKind.i64 n1030, Value.string s1031, Value.slice p1032 n1033 c1034]) ∧
 Calls Tryd.prog 16
 #[Value.slice cols_p cols_n cols_c, Value.slice row_p row_n row_c,
 Value.agg #[Value.int IntKind.i64 n1027, Value.string s1028, Value.int IntKind.i64 n1029, Value.int IntKind.i64 n1030, Value.string s1031, Value.slice p1032 n1033 c1034]]
 w1026 fun (e1035 : Ending) (w1036 : World) ↦
 ∃ (n1037 : Int),
 ∃ (n1038 : Int),
 ∃ (s1039 : ByteArray),
 ∃ (n1040 : Int),
 e1035 = Ending.returned (Value.tuple #[Value.agg #[Value.int IntKind.i64 n1037, Value.int IntKind.i64 n1038, Value.string s1039], Value.int IntKind.i64 n1040]) ∧
 (∃ (u1041 : Value), w1036.cell? (Addr.mk b1002 0 none) = some u1041) ∧
 w1036.frozen? (Addr.mk b1002 0 none) = false ∧
 (∃ (u1042 : Value), w1036.cell? (Addr.mk b1002 1 none) = some u1042) ∧
 w1036.frozen? (Addr.mk b1002 1 none) = false ∧
 (∃ (u1043 : Value), w1036.cell? (Addr.mk b1002 2 none) = some u1043) ∧
 w1036.frozen? (Addr.mk b1002 2 none) = false ∧
 ∀ (w'1044 : World),
 Put w1036 b1002 0 [Value.int IntKind.i64 n1037, Value.int IntKind.i64 n1038, Value.string s1039] w'1044 →
 (n51 ≠ 122 ∧ n1040 ≠ 122 →
 ∃ (n1047 : Int),
 w'1044.cell? (Addr.mk b52 0 none) = some (Value.int IntKind.i64 n1047) ∧
 ∃ (n1048 : Int),
 w'1044.cell? (Addr.mk b52 1 none) = some (Value.int IntKind.i64 n1048) ∧
 ∃ (s1049 : ByteArray),
 w'1044.cell? (Addr.mk b52 2 none) = some (Value.string s1049) ∧
 ∃ (n1050 : Int),
 w'1044.cell? (Addr.mk b1002 0 none) = some (Value.int IntKind.i64 n1050) ∧
 ∃ (n1051 : Int),
 w'1044.cell? (Addr.mk b1002 1 none) = some (Value.int IntKind.i64 n1051) ∧
 ∃ (s1052 : ByteArray),
 w'1044.cell? (Addr.mk b1002 2 none) = some (Value.string s1052) ∧
 ((n1047 ≠ n1050 ∨ n1048 ≠ n1051 ∨ s1049 ≠ s1052) ∨ decide (n51 = 0) ≠ decide (n1040 = 0) → R (Ending.returned (Value.bool false)) w'1044) ∧
 ((n1047 = n1050 ∧ n1048 = n1051 ∧ s1049 = s1052) ∧ decide (n51 = 0) = decide (n1040 = 0) →
 ∃ (n1055 : Int),
 w'1044.cell? (Addr.mk b1_1 0 none) = some (Value.int IntKind.i64 n1055) ∧
 ∃ (s1056 : ByteArray),
 w'1044.cell? (Addr.mk b1_1 1 none) = some (Value.string s1056) ∧
 ∃ (n1057 : Int),
 w'1044.cell? (Addr.mk b1_1 2 none) = some (Value.int IntKind.i64 n1057) ∧
 ∃ (n1058 : Int),
 w'1044.cell? (Addr.mk b1_1 3 none) = some (Value.int IntKind.i64 n1058) ∧
 ∃ (s1059 : ByteArray),
 w'1044.cell? (Addr.mk b1_1 4 none) = some (Value.string s1059) ∧
 ∃ (p1060 : Option Addr),
 ∃ (n1061 : Nat),
 ∃ (c1062 : Nat),
 w'1044.cell? (Addr.mk b1_1 5 none) = some (Value.slice p1060 n1061 c1062) ∧
 ∃ (n1063 : Int),
 w'1044.cell? (Addr.mk b4_1 0 none) = some (Value.int IntKind.i64 n1063) ∧
 ∃ (s1064 : ByteArray),
 w'1044.cell? (Addr.mk b4_1 1 none) = some (Value.string s1064) ∧
 ∃ (n1065 : Int),
 w'1044.cell? (Addr.mk b4_1 2 none) = some (Value.int IntKind.i64 n1065) ∧
 ∃ (n1066 : Int),
 w'1044.cell? (Addr.mk b4_1 3 none) = some (Value.int IntKind.i64 n1066) ∧
 ∃ (s1067 : ByteArray),
 w'1044.cell? (Addr.mk b4_1 4 none) = some (Value.string s1067) ∧
 ∃ (p1068 : Option Addr),
 ∃ (n1069 : Nat),
 ∃ (c1070 : Nat),
 w'1044.cell? (Addr.mk b4_1 5 none) = some (Value.slice p1068 n1069 c1070) ∧
 Calls Tryd.prog 24
 #[Value.int IntKind.i64 10,
 Value.agg #[Value.int IntKind.i64 n1055, Value.string s1056, Value.int IntKind.i64 n1057, Value.int IntKind.i64 n1058, Value.string s1059, Value.slice p1060 n1061 c1062],
 Value.agg #[Value.int IntKind.i64 n1063, Value.string s1064, Value.int IntKind.i64 n1065, Value.int IntKind.i64 n1066, Value.string s1067, Value.slice p1068 n1069 c1070]]
 w'1044 fun (e1071 : Ending) (w1072 : World) ↦
 ∃ (n1073 : Int),
 ∃ (s1074 : ByteArray),
 ∃ (n1075 : Int),
 ∃ (n1076 : Int),
 ∃ (s1077 : ByteArray),
 ∃ (p1078 : Option Addr),
 ∃ (n1079 : Nat),
 ∃ (c1080 : Nat),
 e1071 =
 Ending.returned
 (Value.agg
 #[Value.int IntKind.i64 n1073, Value.string s1074, Value.int IntKind.i64 n1075, Value.int IntKind.i64 n1076, Value.string s1077, Value.slice p1078 n1079 c1080]) ∧
 Calls Tryd.prog 16
 #[Value.slice cols_p cols_n cols_c, Value.slice row_p row_n row_c,
 Value.agg #[Value.int IntKind.i64 n1073, Value.string s1074, Value.int IntKind.i64 n1075, Value.int IntKind.i64 n1076, Value.string s1077, Value.slice p1078 n1079 c1080]]
 w1072 fun (e1081 : Ending) (w1082 : World) ↦
 ∃ (n1083 : Int),
 ∃ (n1084 : Int),
 ∃ (s1085 : ByteArray),
 ∃ (n1086 : Int),
 e1081 = Ending.returned (Value.tuple #[Value.agg #[Value.int IntKind.i64 n1083, Value.int IntKind.i64 n1084, Value.string s1085], Value.int IntKind.i64 n1086]) ∧
 (∃ (u1087 : Value), w1082.cell? (Addr.mk b52 0 none) = some u1087) ∧
 w1082.frozen? (Addr.mk b52 0 none) = false ∧
 (∃ (u1088 : Value), w1082.cell? (Addr.mk b52 1 none) = some u1088) ∧
 w1082.frozen? (Addr.mk b52 1 none) = false ∧
 (∃ (u1089 : Value), w1082.cell? (Addr.mk b52 2 none) = some u1089) ∧
 w1082.frozen? (Addr.mk b52 2 none) = false ∧
 ∀ (w'1090 : World),
 Put w1082 b52 0 [Value.int IntKind.i64 n1083, Value.int IntKind.i64 n1084, Value.string s1085] w'1090 →
 ∃ (n1092 : Int),
 w'1090.cell? (Addr.mk b4_1 0 none) = some (Value.int IntKind.i64 n1092) ∧
 ∃ (s1093 : ByteArray),
 w'1090.cell? (Addr.mk b4_1 1 none) = some (Value.string s1093) ∧
 ∃ (n1094 : Int),
 w'1090.cell? (Addr.mk b4_1 2 none) = some (Value.int IntKind.i64 n1094) ∧
 ∃ (n1095 : Int),
 w'1090.cell? (Addr.mk b4_1 3 none) = some (Value.int IntKind.i64 n1095) ∧
 ∃ (s1096 : ByteArray),
 w'1090.cell? (Addr.mk b4_1 4 none) = some (Value.string s1096) ∧
 ∃ (p1097 : Option Addr),
 ∃ (n1098 : Nat),
 ∃ (c1099 : Nat),
 w'1090.cell? (Addr.mk b4_1 5 none) = some (Value.slice p1097 n1098 c1099) ∧
 ∃ (n1100 : Int),
 w'1090.cell? (Addr.mk b1_1 0 none) = some (Value.int IntKind.i64 n1100) ∧
 ∃ (s1101 : ByteArray),
 w'1090.cell? (Addr.mk b1_1 1 none) = some (Value.string s1101) ∧
 ∃ (n1102 : Int),
 w'1090.cell? (Addr.mk b1_1 2 none) = some (Value.int IntKind.i64 n1102) ∧
 ∃ (n1103 : Int),
 w'1090.cell? (Addr.mk b1_1 3 none) = some (Value.int IntKind.i64 n1103) ∧
 ∃ (s1104 : ByteArray),
 w'1090.cell? (Addr.mk b1_1 4 none) = some (Value.string s1104) ∧
 ∃ (p1105 : Option Addr),
 ∃ (n1106 : Nat),
 ∃ (c1107 : Nat),
 w'1090.cell? (Addr.mk b1_1 5 none) = some (Value.slice p1105 n1106 c1107) ∧
 Calls Tryd.prog 24
 #[Value.int IntKind.i64 11,
 Value.agg #[Value.int IntKind.i64 n1092, Value.string s1093, Value.int IntKind.i64 n1094, Value.int IntKind.i64 n1095, Value.string s1096, Value.slice p1097 n1098 c1099],
 Value.agg #[Value.int IntKind.i64 n1100, Value.string s1101, Value.int IntKind.i64 n1102, Value.int IntKind.i64 n1103, Value.string s1104, Value.slice p1105 n1106 c1107]]
 w'1090 fun (e1108 : Ending) (w1109 : World) ↦
 ∃ (n1110 : Int),
 ∃ (s1111 : ByteArray),
 ∃ (n1112 : Int),
 ∃ (n1113 : Int),
 ∃ (s1114 : ByteArray),
 ∃ (p1115 : Option Addr),
 ∃ (n1116 : Nat),
 ∃ (c1117 : Nat),
 e1108 =
 Ending.returned
 (Value.agg
 #[Value.int IntKind.i64 n1110, Value.string s1111, Value.int IntKind.i64 n1112, Value.int IntKind.i64 n1113, Value.string s1114, Value.slice p1115 n1116 c1117]) ∧
 Calls Tryd.prog 23
 #[Value.int IntKind.i64 14,
 Value.agg #[Value.int IntKind.i64 n1110, Value.string s1111, Value.int IntKind.i64 n1112, Value.int IntKind.i64 n1113, Value.string s1114, Value.slice p1115 n1116 c1117]]
 w1109 fun (e1118 : Ending) (w1119 : World) ↦
 ∃ (n1120 : Int),
 ∃ (s1121 : ByteArray),
 ∃ (n1122 : Int),
 ∃ (n1123 : Int),
 ∃ (s1124 : ByteArray),
 ∃ (p1125 : Option Addr),
 ∃ (n1126 : Nat),
 ∃ (c1127 : Nat),
 e1118 =
 Ending.returned
 (Value.agg
 #[Value.int IntKind.i64 n1120, Value.string s1121, Value.int IntKind.i64 n1122, Value.int IntKind.i64 n1123, Value.string s1124, Value.slice p1125 n1126 c1127]) ∧
 Calls Tryd.prog 16
 #[Value.slice cols_p cols_n cols_c, Value.slice row_p row_n row_c,
 Value.agg #[Value.int IntKind.i64 n1120, Value.string s1121, Value.int IntKind.i64 n1122, Value.int IntKind.i64 n1123, Value.string s1124, Value.slice p1125 n1126 c1127]]
 w1119 fun (e1128 : Ending) (w1129 : World) ↦
 ∃ (n1130 : Int),
 ∃ (n1131 : Int),
 ∃ (s1132 : ByteArray),
 ∃ (n1133 : Int),
 e1128 = Ending.returned (Value.tuple #[Value.agg #[Value.int IntKind.i64 n1130, Value.int IntKind.i64 n1131, Value.string s1132], Value.int IntKind.i64 n1133]) ∧
 (∃ (u1134 : Value), w1129.cell? (Addr.mk b1002 0 none) = some u1134) ∧
 w1129.frozen? (Addr.mk b1002 0 none) = false ∧
 (∃ (u1135 : Value), w1129.cell? (Addr.mk b1002 1 none) = some u1135) ∧
 w1129.frozen? (Addr.mk b1002 1 none) = false ∧
 (∃ (u1136 : Value), w1129.cell? (Addr.mk b1002 2 none) = some u1136) ∧
 w1129.frozen? (Addr.mk b1002 2 none) = false ∧
 ∀ (w'1137 : World),
 Put w1129 b1002 0 [Value.int IntKind.i64 n1130, Value.int IntKind.i64 n1131, Value.string s1132] w'1137 →
 (n1086 ≠ 0 ∨ n1133 ≠ 0 →
 (b9 = true → R (Ending.returned (Value.bool (!decide (n1086 = 0) && !decide (n1133 = 0) || decide (n1086 = 122) || decide (n1133 = 122)))) w'1137) ∧
 (b9 = false → R (Ending.returned (Value.bool false)) w'1137)) ∧
 (n1086 = 0 ∧ n1133 = 0 →
 (b9 = true →
 ∃ (n1144 : Int),
 w'1137.cell? (Addr.mk b52 0 none) = some (Value.int IntKind.i64 n1144) ∧
 ∃ (n1145 : Int),
 w'1137.cell? (Addr.mk b52 1 none) = some (Value.int IntKind.i64 n1145) ∧
 ∃ (s1146 : ByteArray),
 w'1137.cell? (Addr.mk b52 2 none) = some (Value.string s1146) ∧
 ∃ (n1147 : Int),
 w'1137.cell? (Addr.mk b1002 0 none) = some (Value.int IntKind.i64 n1147) ∧
 ∃ (n1148 : Int),
 w'1137.cell? (Addr.mk b1002 1 none) = some (Value.int IntKind.i64 n1148) ∧
 ∃ (s1149 : ByteArray),
 w'1137.cell? (Addr.mk b1002 2 none) = some (Value.string s1149) ∧
 R (Ending.returned (Value.bool (decide (n1144 = n1147) && (decide (n1145 = n1148) && sEq s1146 s1149)))) w'1137) ∧
 (b9 = false → R (Ending.returned (Value.bool false)) w'1137)))) ∧
 (n51 = 122 ∨ n1040 = 122 →
 ∃ (n1152 : Int),
 w'1044.cell? (Addr.mk b1_1 0 none) = some (Value.int IntKind.i64 n1152) ∧
 ∃ (s1153 : ByteArray),
 w'1044.cell? (Addr.mk b1_1 1 none) = some (Value.string s1153) ∧
 ∃ (n1154 : Int),
 w'1044.cell? (Addr.mk b1_1 2 none) = some (Value.int IntKind.i64 n1154) ∧
 ∃ (n1155 : Int),
 w'1044.cell? (Addr.mk b1_1 3 none) = some (Value.int IntKind.i64 n1155) ∧
 ∃ (s1156 : ByteArray),
 w'1044.cell? (Addr.mk b1_1 4 none) = some (Value.string s1156) ∧
 ∃ (p1157 : Option Addr),
 ∃ (n1158 : Nat),
 ∃ (c1159 : Nat),
 w'1044.cell? (Addr.mk b1_1 5 none) = some (Value.slice p1157 n1158 c1159) ∧
 ∃ (n1160 : Int),
 w'1044.cell? (Addr.mk b4_1 0 none) = some (Value.int IntKind.i64 n1160) ∧
 ∃ (s1161 : ByteArray),
 w'1044.cell? (Addr.mk b4_1 1 none) = some (Value.string s1161) ∧
 ∃ (n1162 : Int),
 w'1044.cell? (Addr.mk b4_1 2 none) = some (Value.int IntKind.i64 n1162) ∧
 ∃ (n1163 : Int),
 w'1044.cell? (Addr.mk b4_1 3 none) = some (Value.int IntKind.i64 n1163) ∧
 ∃ (s1164 : ByteArray),
 w'1044.cell? (Addr.mk b4_1 4 none) = some (Value.string s1164) ∧
 ∃ (p1165 : Option Addr),
 ∃ (n1166 : Nat),
 ∃ (c1167 : Nat),
 w'1044.cell? (Addr.mk b4_1 5 none) = some (Value.slice p1165 n1166 c1167) ∧
 Calls Tryd.prog 24
 #[Value.int IntKind.i64 10,
 Value.agg #[Value.int IntKind.i64 n1152, Value.string s1153, Value.int IntKind.i64 n1154, Value.int IntKind.i64 n1155, Value.string s1156, Value.slice p1157 n1158 c1159],
 Value.agg #[Value.int IntKind.i64 n1160, Value.string s1161, Value.int IntKind.i64 n1162, Value.int IntKind.i64 n1163, Value.string s1164, Value.slice p1165 n1166 c1167]]
 w'1044 fun (e1168 : Ending) (w1169 : World) ↦
 ∃ (n1170 : Int),
 ∃ (s1171 : ByteArray),
 ∃ (n1172 : Int),
 ∃ (n1173 : Int),
 ∃ (s1174 : ByteArray),
 ∃ (p1175 : Option Addr),
 ∃ (n1176 : Nat),
 ∃ (c1177 : Nat),
 e1168 =
 Ending.returned
 (Value.agg
 #[Value.int IntKind.i64 n1170, Value.string s1171, Value.int IntKind.i64 n1172, Value.int IntKind.i64 n1173, Value.string s1174, Value.slice p1175 n1176 c1177]) ∧
 Calls Tryd.prog 16
 #[Value.slice cols_p cols_n cols_c, Value.slice row_p row_n row_c,
 Value.agg #[Value.int IntKind.i64 n1170, Value.string s1171, Value.int IntKind.i64 n1172, Value.int IntKind.i64 n1173, Value.string s1174, Value.slice p1175 n1176 c1177]]
 w1169 fun (e1178 : Ending) (w1179 : World) ↦
 ∃ (n1180 : Int),
 ∃ (n1181 : Int),
 ∃ (s1182 : ByteArray),
 ∃ (n1183 : Int),
 e1178 = Ending.returned (Value.tuple #[Value.agg #[Value.int IntKind.i64 n1180, Value.int IntKind.i64 n1181, Value.string s1182], Value.int IntKind.i64 n1183]) ∧
 (∃ (u1184 : Value), w1179.cell? (Addr.mk b52 0 none) = some u1184) ∧
 w1179.frozen? (Addr.mk b52 0 none) = false ∧
 (∃ (u1185 : Value), w1179.cell? (Addr.mk b52 1 none) = some u1185) ∧
 w1179.frozen? (Addr.mk b52 1 none) = false ∧
 (∃ (u1186 : Value), w1179.cell? (Addr.mk b52 2 none) = some u1186) ∧
 w1179.frozen? (Addr.mk b52 2 none) = false ∧
 ∀ (w'1187 : World),
 Put w1179 b52 0 [Value.int IntKind.i64 n1180, Value.int IntKind.i64 n1181, Value.string s1182] w'1187 →
 ∃ (n1189 : Int),
 w'1187.cell? (Addr.mk b4_1 0 none) = some (Value.int IntKind.i64 n1189) ∧
 ∃ (s1190 : ByteArray),
 w'1187.cell? (Addr.mk b4_1 1 none) = some (Value.string s1190) ∧
 ∃ (n1191 : Int),
 w'1187.cell? (Addr.mk b4_1 2 none) = some (Value.int IntKind.i64 n1191) ∧
 ∃ (n1192 : Int),
 w'1187.cell? (Addr.mk b4_1 3 none) = some (Value.int IntKind.i64 n1192) ∧
 ∃ (s1193 : ByteArray),
 w'1187.cell? (Addr.mk b4_1 4 none) = some (Value.string s1193) ∧
 ∃ (p1194 : Option Addr),
 ∃ (n1195 : Nat),
 ∃ (c1196 : Nat),
 w'1187.cell? (Addr.mk b4_1 5 none) = some (Value.slice p1194 n1195 c1196) ∧
 ∃ (n1197 : Int),
 w'1187.cell? (Addr.mk b1_1 0 none) = some (Value.int IntKind.i64 n1197) ∧
 ∃ (s1198 : ByteArray),
 w'1187.cell? (Addr.mk b1_1 1 none) = some (Value.string s1198) ∧
 ∃ (n1199 : Int),
 w'1187.cell? (Addr.mk b1_1 2 none) = some (Value.int IntKind.i64 n1199) ∧
 ∃ (n1200 : Int),
 w'1187.cell? (Addr.mk b1_1 3 none) = some (Value.int IntKind.i64 n1200) ∧
 ∃ (s1201 : ByteArray),
 w'1187.cell? (Addr.mk b1_1 4 none) = some (Value.string s1201) ∧
 ∃ (p1202 : Option Addr),
 ∃ (n1203 : Nat),
 ∃ (c1204 : Nat),
 w'1187.cell? (Addr.mk b1_1 5 none) = some (Value.slice p1202 n1203 c1204) ∧
 Calls Tryd.prog 24
 #[Value.int IntKind.i64 11,
 Value.agg #[Value.int IntKind.i64 n1189, Value.string s1190, Value.int IntKind.i64 n1191, Value.int IntKind.i64 n1192, Value.string s1193, Value.slice p1194 n1195 c1196],
 Value.agg #[Value.int IntKind.i64 n1197, Value.string s1198, Value.int IntKind.i64 n1199, Value.int IntKind.i64 n1200, Value.string s1201, Value.slice p1202 n1203 c1204]]
 w'1187 fun (e1205 : Ending) (w1206 : World) ↦
 ∃ (n1207 : Int),
 ∃ (s1208 : ByteArray),
 ∃ (n1209 : Int),
 ∃ (n1210 : Int),
 ∃ (s1211 : ByteArray),
 ∃ (p1212 : Option Addr),
 ∃ (n1213 : Nat),
 ∃ (c1214 : Nat),
 e1205 =
 Ending.returned
 (Value.agg
 #[Value.int IntKind.i64 n1207, Value.string s1208, Value.int IntKind.i64 n1209, Value.int IntKind.i64 n1210, Value.string s1211, Value.slice p1212 n1213 c1214]) ∧
 Calls Tryd.prog 23
 #[Value.int IntKind.i64 14,
 Value.agg #[Value.int IntKind.i64 n1207, Value.string s1208, Value.int IntKind.i64 n1209, Value.int IntKind.i64 n1210, Value.string s1211, Value.slice p1212 n1213 c1214]]
 w1206 fun (e1215 : Ending) (w1216 : World) ↦
 ∃ (n1217 : Int),
 ∃ (s1218 : ByteArray),
 ∃ (n1219 : Int),
 ∃ (n1220 : Int),
 ∃ (s1221 : ByteArray),
 ∃ (p1222 : Option Addr),
 ∃ (n1223 : Nat),
 ∃ (c1224 : Nat),
 e1215 =
 Ending.returned
 (Value.agg
 #[Value.int IntKind.i64 n1217, Value.string s1218, Value.int IntKind.i64 n1219, Value.int IntKind.i64 n1220, Value.string s1221, Value.slice p1222 n1223 c1224]) ∧
 Calls Tryd.prog 16
 #[Value.slice cols_p cols_n cols_c, Value.slice row_p row_n row_c,
 Value.agg #[Value.int IntKind.i64 n1217, Value.string s1218, Value.int IntKind.i64 n1219, Value.int IntKind.i64 n1220, Value.string s1221, Value.slice p1222 n1223 c1224]]
 w1216 fun (e1225 : Ending) (w1226 : World) ↦
 ∃ (n1227 : Int),
 ∃ (n1228 : Int),
 ∃ (s1229 : ByteArray),
 ∃ (n1230 : Int),
 e1225 = Ending.returned (Value.tuple #[Value.agg #[Value.int IntKind.i64 n1227, Value.int IntKind.i64 n1228, Value.string s1229], Value.int IntKind.i64 n1230]) ∧
 (∃ (u1231 : Value), w1226.cell? (Addr.mk b1002 0 none) = some u1231) ∧
 w1226.frozen? (Addr.mk b1002 0 none) = false ∧
 (∃ (u1232 : Value), w1226.cell? (Addr.mk b1002 1 none) = some u1232) ∧
 w1226.frozen? (Addr.mk b1002 1 none) = false ∧
 (∃ (u1233 : Value), w1226.cell? (Addr.mk b1002 2 none) = some u1233) ∧
 w1226.frozen? (Addr.mk b1002 2 none) = false ∧
 ∀ (w'1234 : World),
 Put w1226 b1002 0 [Value.int IntKind.i64 n1227, Value.int IntKind.i64 n1228, Value.string s1229] w'1234 →
 (n1183 ≠ 0 ∨ n1230 ≠ 0 →
 (b9 = true → R (Ending.returned (Value.bool (!decide (n1183 = 0) && !decide (n1230 = 0) || decide (n1183 = 122) || decide (n1230 = 122)))) w'1234) ∧
 (b9 = false → R (Ending.returned (Value.bool false)) w'1234)) ∧
 (n1183 = 0 ∧ n1230 = 0 →
 (b9 = true →
 ∃ (n1241 : Int),
 w'1234.cell? (Addr.mk b52 0 none) = some (Value.int IntKind.i64 n1241) ∧
 ∃ (n1242 : Int),
 w'1234.cell? (Addr.mk b52 1 none) = some (Value.int IntKind.i64 n1242) ∧
 ∃ (s1243 : ByteArray),
 w'1234.cell? (Addr.mk b52 2 none) = some (Value.string s1243) ∧
 ∃ (n1244 : Int),
 w'1234.cell? (Addr.mk b1002 0 none) = some (Value.int IntKind.i64 n1244) ∧
 ∃ (n1245 : Int),
 w'1234.cell? (Addr.mk b1002 1 none) = some (Value.int IntKind.i64 n1245) ∧
 ∃ (s1246 : ByteArray),
 w'1234.cell? (Addr.mk b1002 2 none) = some (Value.string s1246) ∧
 R (Ending.returned (Value.bool (decide (n1241 = n1244) && (decide (n1242 = n1245) && sEq s1243 s1246)))) w'1234) ∧
 (b9 = false → R (Ending.returned (Value.bool false)) w'1234)))

set_option maxRecDepth 100000 in
theorem lawTurns_eq (cols_p : Option Addr) (cols_n : Nat) (cols_c : Nat) (row_p : Option Addr) (row_n : Nat) (row_c : Nat) (a0 : Int) (a1 : ByteArray) (a2 : Int) (a3 : Int) (a4 : ByteArray) (a5_p : Option Addr) (a5_n : Nat) (a5_c : Nat) (b0 : Int) (b1 : ByteArray) (b2 : Int) (b3 : Int) (b4 : ByteArray) (b5_p : Option Addr) (b5_n : Nat) (b5_c : Nat) (w : World) (R : Ending → World → Prop) : lawTurns_T cols_p cols_n cols_c row_p row_n row_c a0 a1 a2 a3 a4 a5_p a5_n a5_c b0 b1 b2 b3 b4 b5_p b5_n b5_c w R = vcFn Tryd.prog [] [(3, [2, 4, 6, 10, 1, 9, 1, 12, 1, 14, 1, 16, 18, 20, 22, 25, 26, 28, 0, 25, 16, 18, 20, 22, 26, 28, 0, 25, 14, 16, 18, 20, 22, 26, 28, 0, 25, 12, 14, 16, 18, 20, 22, 26, 28, 0, 25, 9, 12, 14, 16, 18, 20, 22, 26, 28, 0])] Tryd.f8 [Value.slice cols_p cols_n cols_c, Value.slice row_p row_n row_c, Value.agg
 #[Value.int IntKind.i64 a0, Value.string a1, Value.int IntKind.i64 a2, Value.int IntKind.i64 a3, Value.string a4,
 Value.slice a5_p a5_n a5_c], Value.agg
 #[Value.int IntKind.i64 b0, Value.string b1, Value.int IntKind.i64 b2, Value.int IntKind.i64 b3, Value.string b4,
 Value.slice b5_p b5_n b5_c]] w R := by kernel_rfl

set_option maxRecDepth 100000 in
theorem lawTurns_vc (cols_p : Option Addr) (cols_n : Nat) (cols_c : Nat) (row_p : Option Addr) (row_n : Nat) (row_c : Nat) (a0 : Int) (a1 : ByteArray) (a2 : Int) (a3 : Int) (a4 : ByteArray) (a5_p : Option Addr) (a5_n : Nat) (a5_c : Nat) (b0 : Int) (b1 : ByteArray) (b2 : Int) (b3 : Int) (b4 : ByteArray) (b5_p : Option Addr) (b5_n : Nat) (b5_c : Nat) (w : World) (R : Ending → World → Prop) (h : lawTurns_T cols_p cols_n cols_c row_p row_n row_c a0 a1 a2 a3 a4 a5_p a5_n a5_c b0 b1 b2 b3 b4 b5_p b5_n b5_c w R) : Calls Tryd.prog 8 #[Value.slice cols_p cols_n cols_c, Value.slice row_p row_n row_c, Value.agg
 #[Value.int IntKind.i64 a0, Value.string a1, Value.int IntKind.i64 a2, Value.int IntKind.i64 a3, Value.string a4,
 Value.slice a5_p a5_n a5_c], Value.agg
 #[Value.int IntKind.i64 b0, Value.string b1, Value.int IntKind.i64 b2, Value.int IntKind.i64 b3, Value.string b4,
 Value.slice b5_p b5_n b5_c]] w R :=
  calls_of_vc (args := [Value.slice cols_p cols_n cols_c, Value.slice row_p row_n row_c, Value.agg
 #[Value.int IntKind.i64 a0, Value.string a1, Value.int IntKind.i64 a2, Value.int IntKind.i64 a3, Value.string a4,
 Value.slice a5_p a5_n a5_c], Value.agg
 #[Value.int IntKind.i64 b0, Value.string b1, Value.int IntKind.i64 b2, Value.int IntKind.i64 b3, Value.string b4,
 Value.slice b5_p b5_n b5_c]]) [] [(3, [2, 4, 6, 10, 1, 9, 1, 12, 1, 14, 1, 16, 18, 20, 22, 25, 26, 28, 0, 25, 16, 18, 20, 22, 26, 28, 0, 25, 14, 16, 18, 20, 22, 26, 28, 0, 25, 12, 14, 16, 18, 20, 22, 26, 28, 0, 25, 9, 12, 14, 16, 18, 20, 22, 26, 28, 0])] Tryd.mixed Tryd.func8 (cast (lawTurns_eq _ _ _ _ _ _ _ _ _ _ _ _ _ _ _ _ _ _ _ _ _ _ w R) h)

set_option maxRecDepth 100000 in
def lawSwaps_T (cols_p : Option Addr) (cols_n : Nat) (cols_c : Nat) (row_p : Option Addr) (row_n : Nat) (row_c : Nat) (a0 : Int) (a1 : ByteArray) (a2 : Int) (a3 : Int) (a4 : ByteArray) (a5_p : Option Addr) (a5_n : Nat) (a5_c : Nat) (b0 : Int) (b1 : ByteArray) (b2 : Int) (b3 : Int) (b4 : ByteArray) (b5_p : Option Addr) (b5_n : Nat) (b5_c : Nat) (w : World) (R : Ending → World → Prop) : Prop :=
  ∀ (b1_1 : Nat) (w'2 : World),
 New w (Obj.cells #[Value.int IntKind.i64 a0, Value.string a1, Value.int IntKind.i64 a2, Value.int IntKind.i64 a3, Value.string a4, Value.slice a5_p a5_n a5_c] 29) b1_1
 w'2 →
 ∀ (b4_1 : Nat) (w'5 : World),
 New w'2 (Obj.cells #[Value.int IntKind.i64 b0, Value.string b1, Value.int IntKind.i64 b2, Value.int IntKind.i64 b3, Value.string b4, Value.slice b5_p b5_n b5_c] 29) b4_1
 w'5 →
 Calls Tryd.prog 11 #[] w'5 fun (e7 : Ending) (w8 : World) ↦
 ∃ (b9 : Bool),
 e7 = Ending.returned (Value.bool b9) ∧
 ∃ (n10 : Int),
 w8.cell? (Addr.mk b1_1 0 none) = some (Value.int IntKind.i64 n10) ∧
 ∃ (s11 : ByteArray),
 w8.cell? (Addr.mk b1_1 1 none) = some (Value.string s11) ∧
 ∃ (n12 : Int),
 w8.cell? (Addr.mk b1_1 2 none) = some (Value.int IntKind.i64 n12) ∧
 ∃ (n13 : Int),
 w8.cell? (Addr.mk b1_1 3 none) = some (Value.int IntKind.i64 n13) ∧
 ∃ (s14 : ByteArray),
 w8.cell? (Addr.mk b1_1 4 none) = some (Value.string s14) ∧
 ∃ (p15 : Option Addr),
 ∃ (n16 : Nat),
 ∃ (c17 : Nat),
 w8.cell? (Addr.mk b1_1 5 none) = some (Value.slice p15 n16 c17) ∧
 Calls Tryd.prog 16
 #[Value.slice cols_p cols_n cols_c, Value.slice row_p row_n row_c,
 Value.agg #[Value.int IntKind.i64 n10, Value.string s11, Value.int IntKind.i64 n12, Value.int IntKind.i64 n13, Value.string s14, Value.slice p15 n16 c17]]
 w8 fun (e18 : Ending) (w19 : World) ↦
 ∃ (n20 : Int),
 ∃ (n21 : Int),
 ∃ (s22 : ByteArray),
 ∃ (n23 : Int),
 e18 = Ending.returned (Value.tuple #[Value.agg #[Value.int IntKind.i64 n20, Value.int IntKind.i64 n21, Value.string s22], Value.int IntKind.i64 n23]) ∧
 ∀ (b24 : Nat) (w'25 : World),
 New w19 (Obj.cells #[Value.int IntKind.i64 0, Value.int IntKind.i64 0, Value.string (ByteArray.mk #[])] 26) b24 w'25 →
 (∃ (u27 : Value), w'25.cell? (Addr.mk b24 0 none) = some u27) ∧
 w'25.frozen? (Addr.mk b24 0 none) = false ∧
 (∃ (u28 : Value), w'25.cell? (Addr.mk b24 1 none) = some u28) ∧
 w'25.frozen? (Addr.mk b24 1 none) = false ∧
 (∃ (u29 : Value), w'25.cell? (Addr.mk b24 2 none) = some u29) ∧
 w'25.frozen? (Addr.mk b24 2 none) = false ∧
 ∀ (w'30 : World),
 Put w'25 b24 0 [Value.int IntKind.i64 n20, Value.int IntKind.i64 n21, Value.string s22] w'30 →
 ∃ (n32 : Int),
 w'30.cell? (Addr.mk b4_1 0 none) = some (Value.int IntKind.i64 n32) ∧
 ∃ (s33 : ByteArray),
 w'30.cell? (Addr.mk b4_1 1 none) = some (Value.string s33) ∧
 ∃ (n34 : Int),
 w'30.cell? (Addr.mk b4_1 2 none) = some (Value.int IntKind.i64 n34) ∧
 ∃ (n35 : Int),
 w'30.cell? (Addr.mk b4_1 3 none) = some (Value.int IntKind.i64 n35) ∧
 ∃ (s36 : ByteArray),
 w'30.cell? (Addr.mk b4_1 4 none) = some (Value.string s36) ∧
 ∃ (p37 : Option Addr),
 ∃ (n38 : Nat),
 ∃ (c39 : Nat),
 w'30.cell? (Addr.mk b4_1 5 none) = some (Value.slice p37 n38 c39) ∧
 Calls Tryd.prog 16
 #[Value.slice cols_p cols_n cols_c, Value.slice row_p row_n row_c,
 Value.agg #[Value.int IntKind.i64 n32, Value.string s33, Value.int IntKind.i64 n34, Value.int IntKind.i64 n35, Value.string s36, Value.slice p37 n38 c39]]
 w'30 fun (e40 : Ending) (w41 : World) ↦
 ∃ (n42 : Int),
 ∃ (n43 : Int),
 ∃ (s44 : ByteArray),
 ∃ (n45 : Int),
 e40 = Ending.returned (Value.tuple #[Value.agg #[Value.int IntKind.i64 n42, Value.int IntKind.i64 n43, Value.string s44], Value.int IntKind.i64 n45]) ∧
 ∀ (b46 : Nat) (w'47 : World),
 New w41 (Obj.cells #[Value.int IntKind.i64 0, Value.int IntKind.i64 0, Value.string (ByteArray.mk #[])] 26) b46 w'47 →
 (∃ (u49 : Value), w'47.cell? (Addr.mk b46 0 none) = some u49) ∧
 w'47.frozen? (Addr.mk b46 0 none) = false ∧
 (∃ (u50 : Value), w'47.cell? (Addr.mk b46 1 none) = some u50) ∧
 w'47.frozen? (Addr.mk b46 1 none) = false ∧
 (∃ (u51 : Value), w'47.cell? (Addr.mk b46 2 none) = some u51) ∧
 w'47.frozen? (Addr.mk b46 2 none) = false ∧
 ∀ (w'52 : World),
 Put w'47 b46 0 [Value.int IntKind.i64 n42, Value.int IntKind.i64 n43, Value.string s44] w'52 →
 (n23 ≠ 0 ∨ n45 ≠ 0 → R (Ending.returned (Value.bool b9)) w'52) ∧
 (n23 = 0 ∧ n45 = 0 →
 ∀ (b56 : Nat) (w'57 : World),
 New w'52 (Obj.cells #[Value.int IntKind.i64 3, Value.int IntKind.i64 5, Value.int IntKind.i64 9, Value.int IntKind.i64 12, Value.int IntKind.i64 13] 3) b56 w'57 →
 ∃ (I59 : Int → World → Prop),
 ∃ (M60 : Int → World → Nat),
 I59 0 w'57 ∧
 ∀ (n61 : Int) (w'62 : World),
 I59 n61 w'62 →
 (n61 < 5 →
 ∀ (w'65 : World),
 Drew w'62 w'65 →
 ∃ (b67 : Nat),
 ∃ (o68 : Nat),
 some (Addr.mk b56 0 none) = some (Addr.mk b67 o68 none) ∧
 0 ≤ n61 ∧
 n61 < 5 ∧
 ∃ (n69 : Int),
 w'65.cell? (Addr.mk b67 (o68 + n61.toNat) none) = some (Value.int IntKind.i64 n69) ∧
 ∃ (n70 : Int),
 w'65.cell? (Addr.mk b1_1 0 none) = some (Value.int IntKind.i64 n70) ∧
 ∃ (s71 : ByteArray),
 w'65.cell? (Addr.mk b1_1 1 none) = some (Value.string s71) ∧
 ∃ (n72 : Int),
 w'65.cell? (Addr.mk b1_1 2 none) = some (Value.int IntKind.i64 n72) ∧
 ∃ (n73 : Int),
 w'65.cell? (Addr.mk b1_1 3 none) = some (Value.int IntKind.i64 n73) ∧
 ∃ (s74 : ByteArray),
 w'65.cell? (Addr.mk b1_1 4 none) = some (Value.string s74) ∧
 ∃ (p75 : Option Addr),
 ∃ (n76 : Nat),
 ∃ (c77 : Nat),
 w'65.cell? (Addr.mk b1_1 5 none) = some (Value.slice p75 n76 c77) ∧
 ∃ (n78 : Int),
 w'65.cell? (Addr.mk b4_1 0 none) = some (Value.int IntKind.i64 n78) ∧
 ∃ (s79 : ByteArray),
 w'65.cell? (Addr.mk b4_1 1 none) = some (Value.string s79) ∧
 ∃ (n80 : Int),
 w'65.cell? (Addr.mk b4_1 2 none) = some (Value.int IntKind.i64 n80) ∧
 ∃ (n81 : Int),
 w'65.cell? (Addr.mk b4_1 3 none) = some (Value.int IntKind.i64 n81) ∧
 ∃ (s82 : ByteArray),
 w'65.cell? (Addr.mk b4_1 4 none) = some (Value.string s82) ∧
 ∃ (p83 : Option Addr),
 ∃ (n84 : Nat),
 ∃ (c85 : Nat),
 w'65.cell? (Addr.mk b4_1 5 none) = some (Value.slice p83 n84 c85) ∧
 (Calls Tryd.prog 24
 #[Value.int IntKind.i64 n69,
 Value.agg #[Value.int IntKind.i64 n70, Value.string s71, Value.int IntKind.i64 n72, Value.int IntKind.i64 n73, Value.string s74, Value.slice p75 n76 c77],
 Value.agg #[Value.int IntKind.i64 n78, Value.string s79, Value.int IntKind.i64 n80, Value.int IntKind.i64 n81, Value.string s82, Value.slice p83 n84 c85]]
 w'65 fun (e86 : Ending) (w87 : World) ↦
 ∃ (n88 : Int),
 ∃ (s89 : ByteArray),
 ∃ (n90 : Int),
 ∃ (n91 : Int),
 ∃ (s92 : ByteArray),
 ∃ (p93 : Option Addr),
 ∃ (n94 : Nat),
 ∃ (c95 : Nat),
 e86 =
 Ending.returned
 (Value.agg #[Value.int IntKind.i64 n88, Value.string s89, Value.int IntKind.i64 n90, Value.int IntKind.i64 n91, Value.string s92, Value.slice p93 n94 c95]) ∧
 (Calls Tryd.prog 16
 #[Value.slice cols_p cols_n cols_c, Value.slice row_p row_n row_c,
 Value.agg #[Value.int IntKind.i64 n88, Value.string s89, Value.int IntKind.i64 n90, Value.int IntKind.i64 n91, Value.string s92, Value.slice p93 n94 c95]]
 w87 fun (e96 : Ending) (w97 : World) ↦
 ∃ (n98 : Int),
 ∃ (n99 : Int),
 ∃ (s100 : ByteArray),
 ∃ (n101 : Int),
 e96 = Ending.returned (Value.tuple #[Value.agg #[Value.int IntKind.i64 n98, Value.int IntKind.i64 n99, Value.string s100], Value.int IntKind.i64 n101]) ∧
 ∀ (b102 : Nat) (w'103 : World),
 New w97 (Obj.cells #[Value.int IntKind.i64 0, Value.int IntKind.i64 0, Value.string (ByteArray.mk #[])] 26) b102 w'103 →
 Same w97 w'103 ∧
 (∃ (u105 : Value), w'103.cell? (Addr.mk b102 0 none) = some u105) ∧
 w'103.frozen? (Addr.mk b102 0 none) = false ∧
 (∃ (u106 : Value), w'103.cell? (Addr.mk b102 1 none) = some u106) ∧
 w'103.frozen? (Addr.mk b102 1 none) = false ∧
 (∃ (u107 : Value), w'103.cell? (Addr.mk b102 2 none) = some u107) ∧
 w'103.frozen? (Addr.mk b102 2 none) = false ∧
 ∀ (w'108 : World),
 Put w'103 b102 0 [Value.int IntKind.i64 n98, Value.int IntKind.i64 n99, Value.string s100] w'108 →
 ∀ (w'110 : World),
 Drew w'108 w'110 →
 ∃ (b112 : Nat),
 ∃ (o113 : Nat),
 some (Addr.mk b56 0 none) = some (Addr.mk b112 o113 none) ∧
 0 ≤ n61 ∧
 n61 < 5 ∧
 ∃ (n114 : Int),
 w'110.cell? (Addr.mk b112 (o113 + n61.toNat) none) = some (Value.int IntKind.i64 n114) ∧
 ∃ (n115 : Int),
 w'110.cell? (Addr.mk b4_1 0 none) = some (Value.int IntKind.i64 n115) ∧
 ∃ (s116 : ByteArray),
 w'110.cell? (Addr.mk b4_1 1 none) = some (Value.string s116) ∧
 ∃ (n117 : Int),
 w'110.cell? (Addr.mk b4_1 2 none) = some (Value.int IntKind.i64 n117) ∧
 ∃ (n118 : Int),
 w'110.cell? (Addr.mk b4_1 3 none) = some (Value.int IntKind.i64 n118) ∧
 ∃ (s119 : ByteArray),
 w'110.cell? (Addr.mk b4_1 4 none) = some (Value.string s119) ∧
 ∃ (p120 : Option Addr),
 ∃ (n121 : Nat),
 ∃ (c122 : Nat),
 w'110.cell? (Addr.mk b4_1 5 none) = some (Value.slice p120 n121 c122) ∧
 ∃ (n123 : Int),
 w'110.cell? (Addr.mk b1_1 0 none) = some (Value.int IntKind.i64 n123) ∧
 ∃ (s124 : ByteArray),
 w'110.cell? (Addr.mk b1_1 1 none) = some (Value.string s124) ∧
 ∃ (n125 : Int),
 w'110.cell? (Addr.mk b1_1 2 none) = some (Value.int IntKind.i64 n125) ∧
 ∃ (n126 : Int),
 w'110.cell? (Addr.mk b1_1 3 none) = some (Value.int IntKind.i64 n126) ∧
 ∃ (s127 : ByteArray),
 w'110.cell? (Addr.mk b1_1 4 none) = some (Value.string s127) ∧
 ∃ (p128 : Option Addr),
 ∃ (n129 : Nat),
 ∃ (c130 : Nat),
 w'110.cell? (Addr.mk b1_1 5 none) = some (Value.slice p128 n129 c130) ∧
 (Calls Tryd.prog 24
 #[Value.int IntKind.i64 n114,
 Value.agg #[Value.int IntKind.i64 n115, Value.string s116, Value.int IntKind.i64 n117, Value.int IntKind.i64 n118, Value.string s119, Value.slice p120 n121 c122],
 Value.agg #[Value.int IntKind.i64 n123, Value.string s124, Value.int IntKind.i64 n125, Value.int IntKind.i64 n126, Value.string s127, Value.slice p128 n129 c130]]
 w'110 fun (e131 : Ending) (w132 : World) ↦
 ∃ (n133 : Int),
 ∃ (s134 : ByteArray),
 ∃ (n135 : Int),
 ∃ (n136 : Int),
 ∃ (s137 : ByteArray),
 ∃ (p138 : Option Addr),
 ∃ (n139 : Nat),
 ∃ (c140 : Nat),
 e131 =
 Ending.returned
 (Value.agg #[Value.int IntKind.i64 n133, Value.string s134, Value.int IntKind.i64 n135, Value.int IntKind.i64 n136, Value.string s137, Value.slice p138 n139 c140]) ∧
 (Calls Tryd.prog 16
 #[Value.slice cols_p cols_n cols_c, Value.slice row_p row_n row_c,
 Value.agg #[Value.int IntKind.i64 n133, Value.string s134, Value.int IntKind.i64 n135, Value.int IntKind.i64 n136, Value.string s137, Value.slice p138 n139 c140]]
 w132 fun (e141 : Ending) (w142 : World) ↦
 ∃ (n143 : Int),
 ∃ (n144 : Int),
 ∃ (s145 : ByteArray),
 ∃ (n146 : Int),
 e141 = Ending.returned (Value.tuple #[Value.agg #[Value.int IntKind.i64 n143, Value.int IntKind.i64 n144, Value.string s145], Value.int IntKind.i64 n146]) ∧
 ∀ (b147 : Nat) (w'148 : World),
 New w142 (Obj.cells #[Value.int IntKind.i64 0, Value.int IntKind.i64 0, Value.string (ByteArray.mk #[])] 26) b147 w'148 →
 Same w142 w'148 ∧
 (∃ (u150 : Value), w'148.cell? (Addr.mk b147 0 none) = some u150) ∧
 w'148.frozen? (Addr.mk b147 0 none) = false ∧
 (∃ (u151 : Value), w'148.cell? (Addr.mk b147 1 none) = some u151) ∧
 w'148.frozen? (Addr.mk b147 1 none) = false ∧
 (∃ (u152 : Value), w'148.cell? (Addr.mk b147 2 none) = some u152) ∧
 w'148.frozen? (Addr.mk b147 2 none) = false ∧
 ∀ (w'153 : World),
 Put w'148 b147 0 [Value.int IntKind.i64 n143, Value.int IntKind.i64 n144, Value.string s145] w'153 →
 ∃ (n155 : Int),
 w'153.cell? (Addr.mk b102 0 none) = some (Value.int IntKind.i64 n155) ∧
 ∃ (n156 : Int),
 w'153.cell? (Addr.mk b102 1 none) = some (Value.int IntKind.i64 n156) ∧
 ∃ (s157 : ByteArray),
 w'153.cell? (Addr.mk b102 2 none) = some (Value.string s157) ∧
 ∃ (n158 : Int),
 w'153.cell? (Addr.mk b147 0 none) = some (Value.int IntKind.i64 n158) ∧
 ∃ (n159 : Int),
 w'153.cell? (Addr.mk b147 1 none) = some (Value.int IntKind.i64 n159) ∧
 ∃ (s160 : ByteArray),
 w'153.cell? (Addr.mk b147 2 none) = some (Value.string s160) ∧
 ((n155 ≠ n158 ∨ n156 ≠ n159 ∨ s157 ≠ s160) ∨ n101 ≠ n146 → R (Ending.returned (Value.bool false)) w'153) ∧
 ((n155 = n158 ∧ n156 = n159 ∧ s157 = s160) ∧ n101 = n146 → I59 (IntKind.i64.wrap (n61 + 1)) w'153 ∧ M60 (IntKind.i64.wrap (n61 + 1)) w'153 < M60 n61 w'62)) ∧
 ∀ (b163 : Nat) (w'164 : World),
 New w132 (Obj.cells #[Value.int IntKind.i64 0, Value.int IntKind.i64 0, Value.string (ByteArray.mk #[])] 26) b163 w'164 →
 Same w132 w'164 ∧
 Calls Tryd.prog 16
 #[Value.slice cols_p cols_n cols_c, Value.slice row_p row_n row_c,
 Value.agg #[Value.int IntKind.i64 n133, Value.string s134, Value.int IntKind.i64 n135, Value.int IntKind.i64 n136, Value.string s137, Value.slice p138 n139 c140]]
 w'164 fun (e166 : Ending) (w167 : World) ↦
 ∃ (n168 : Int),
 ∃ (n169 : Int),
 ∃ (s170 : ByteArray),
 ∃ (n171 : Int),
 e166 = Ending.returned (Value.tuple #[Value.agg #[Value.int IntKind.i64 n168, Value.int IntKind.i64 n169, Value.string s170], Value.int IntKind.i64 n171]) ∧
 (∃ (u172 : Value), w167.cell? (Addr.mk b163 0 none) = some u172) ∧
 w167.frozen? (Addr.mk b163 0 none) = false ∧
 (∃ (u173 : Value), w167.cell? (Addr.mk b163 1 none) = some u173) ∧
 w167.frozen? (Addr.mk b163 1 none) = false ∧
 (∃ (u174 : Value), w167.cell? (Addr.mk b163 2 none) = some u174) ∧
 w167.frozen? (Addr.mk b163 2 none) = false ∧
 ∀ (w'175 : World),
 Put w167 b163 0 [Value.int IntKind.i64 n168, Value.int IntKind.i64 n169, Value.string s170] w'175 →
 ∃ (n177 : Int),
 w'175.cell? (Addr.mk b102 0 none) = some (Value.int IntKind.i64 n177) ∧
 ∃ (n178 : Int),
 w'175.cell? (Addr.mk b102 1 none) = some (Value.int IntKind.i64 n178) ∧
 ∃ (s179 : ByteArray),
 w'175.cell? (Addr.mk b102 2 none) = some (Value.string s179) ∧
 ∃ (n180 : Int),
 w'175.cell? (Addr.mk b163 0 none) = some (Value.int IntKind.i64 n180) ∧
 ∃ (n181 : Int),
 w'175.cell? (Addr.mk b163 1 none) = some (Value.int IntKind.i64 n181) ∧
 ∃ (s182 : ByteArray),
 w'175.cell? (Addr.mk b163 2 none) = some (Value.string s182) ∧
 ((n177 ≠ n180 ∨ n178 ≠ n181 ∨ s179 ≠ s182) ∨ n101 ≠ n171 → R (Ending.returned (Value.bool false)) w'175) ∧
 ((n177 = n180 ∧ n178 = n181 ∧ s179 = s182) ∧ n101 = n171 → I59 (IntKind.i64.wrap (n61 + 1)) w'175 ∧ M60 (IntKind.i64.wrap (n61 + 1)) w'175 < M60 n61 w'62)) ∧
 ∀ (b185 : Nat) (w'186 : World),
 New w'110 (Obj.cells #[Value.int IntKind.i64 0, Value.int IntKind.i64 0, Value.string (ByteArray.mk #[])] 26) b185 w'186 →
 Same w'110 w'186 ∧
 Calls Tryd.prog 24
 #[Value.int IntKind.i64 n114,
 Value.agg #[Value.int IntKind.i64 n115, Value.string s116, Value.int IntKind.i64 n117, Value.int IntKind.i64 n118, Value.string s119, Value.slice p120 n121 c122],
 Value.agg #[Value.int IntKind.i64 n123, Value.string s124, Value.int IntKind.i64 n125, Value.int IntKind.i64 n126, Value.string s127, Value.slice p128 n129 c130]]
 w'186 fun (e188 : Ending) (w189 : World) ↦
 ∃ (n190 : Int),
 ∃ (s191 : ByteArray),
 ∃ (n192 : Int),
 ∃ (n193 : Int),
 ∃ (s194 : ByteArray),
 ∃ (p195 : Option Addr),
 ∃ (n196 : Nat),
 ∃ (c197 : Nat),
 e188 =
 Ending.returned
 (Value.agg #[Value.int IntKind.i64 n190, Value.string s191, Value.int IntKind.i64 n192, Value.int IntKind.i64 n193, Value.string s194, Value.slice p195 n196 c197]) ∧
 Calls Tryd.prog 16
 #[Value.slice cols_p cols_n cols_c, Value.slice row_p row_n row_c,
 Value.agg #[Value.int IntKind.i64 n190, Value.string s191, Value.int IntKind.i64 n192, Value.int IntKind.i64 n193, Value.string s194, Value.slice p195 n196 c197]]
 w189 fun (e198 : Ending) (w199 : World) ↦
 ∃ (n200 : Int),
 ∃ (n201 : Int),
 ∃ (s202 : ByteArray),
 ∃ (n203 : Int),
 e198 = Ending.returned (Value.tuple #[Value.agg #[Value.int IntKind.i64 n200, Value.int IntKind.i64 n201, Value.string s202], Value.int IntKind.i64 n203]) ∧
 (∃ (u204 : Value), w199.cell? (Addr.mk b185 0 none) = some u204) ∧
 w199.frozen? (Addr.mk b185 0 none) = false ∧
 (∃ (u205 : Value), w199.cell? (Addr.mk b185 1 none) = some u205) ∧
 w199.frozen? (Addr.mk b185 1 none) = false ∧
 (∃ (u206 : Value), w199.cell? (Addr.mk b185 2 none) = some u206) ∧
 w199.frozen? (Addr.mk b185 2 none) = false ∧
 ∀ (w'207 : World),
 Put w199 b185 0 [Value.int IntKind.i64 n200, Value.int IntKind.i64 n201, Value.string s202] w'207 →
 ∃ (n209 : Int),
 w'207.cell? (Addr.mk b102 0 none) = some (Value.int IntKind.i64 n209) ∧
 ∃ (n210 : Int),
 w'207.cell? (Addr.mk b102 1 none) = some (Value.int IntKind.i64 n210) ∧
 ∃ (s211 : ByteArray),
 w'207.cell? (Addr.mk b102 2 none) = some (Value.string s211) ∧
 ∃ (n212 : Int),
 w'207.cell? (Addr.mk b185 0 none) = some (Value.int IntKind.i64 n212) ∧
 ∃ (n213 : Int),
 w'207.cell? (Addr.mk b185 1 none) = some (Value.int IntKind.i64 n213) ∧
 ∃ (s214 : ByteArray),
 w'207.cell? (Addr.mk b185 2 none) = some (Value.string s214) ∧
 ((n209 ≠ n212 ∨ n210 ≠ n213 ∨ s211 ≠ s214) ∨ n101 ≠ n203 → R (Ending.returned (Value.bool false)) w'207) ∧
 ((n209 = n212 ∧ n210 = n213 ∧ s211 = s214) ∧ n101 = n203 → I59 (IntKind.i64.wrap (n61 + 1)) w'207 ∧ M60 (IntKind.i64.wrap (n61 + 1)) w'207 < M60 n61 w'62)) ∧
 ∀ (b217 : Nat) (w'218 : World),
 New w87 (Obj.cells #[Value.int IntKind.i64 0, Value.int IntKind.i64 0, Value.string (ByteArray.mk #[])] 26) b217 w'218 →
 Same w87 w'218 ∧
 Calls Tryd.prog 16
 #[Value.slice cols_p cols_n cols_c, Value.slice row_p row_n row_c,
 Value.agg #[Value.int IntKind.i64 n88, Value.string s89, Value.int IntKind.i64 n90, Value.int IntKind.i64 n91, Value.string s92, Value.slice p93 n94 c95]]
 w'218 fun (e220 : Ending) (w221 : World) ↦
 ∃ (n222 : Int),
 ∃ (n223 : Int),
 ∃ (s224 : ByteArray),
 ∃ (n225 : Int),
 e220 = Ending.returned (Value.tuple #[Value.agg #[Value.int IntKind.i64 n222, Value.int IntKind.i64 n223, Value.string s224], Value.int IntKind.i64 n225]) ∧
 (∃ (u226 : Value), w221.cell? (Addr.mk b217 0 none) = some u226) ∧
 w221.frozen? (Addr.mk b217 0 none) = false ∧
 (∃ (u227 : Value), w221.cell? (Addr.mk b217 1 none) = some u227) ∧
 w221.frozen? (Addr.mk b217 1 none) = false ∧
 (∃ (u228 : Value), w221.cell? (Addr.mk b217 2 none) = some u228) ∧
 w221.frozen? (Addr.mk b217 2 none) = false ∧
 ∀ (w'229 : World),
 Put w221 b217 0 [Value.int IntKind.i64 n222, Value.int IntKind.i64 n223, Value.string s224] w'229 →
 ∀ (w'231 : World),
 Drew w'229 w'231 →
 ∃ (b233 : Nat),
 ∃ (o234 : Nat),
 some (Addr.mk b56 0 none) = some (Addr.mk b233 o234 none) ∧
 0 ≤ n61 ∧
 n61 < 5 ∧
 ∃ (n235 : Int),
 w'231.cell? (Addr.mk b233 (o234 + n61.toNat) none) = some (Value.int IntKind.i64 n235) ∧
 ∃ (n236 : Int),
 w'231.cell? (Addr.mk b4_1 0 none) = some (Value.int IntKind.i64 n236) ∧
 ∃ (s237 : ByteArray),
 w'231.cell? (Addr.mk b4_1 1 none) = some (Value.string s237) ∧
 ∃ (n238 : Int),
 w'231.cell? (Addr.mk b4_1 2 none) = some (Value.int IntKind.i64 n238) ∧
 ∃ (n239 : Int),
 w'231.cell? (Addr.mk b4_1 3 none) = some (Value.int IntKind.i64 n239) ∧
 ∃ (s240 : ByteArray),
 w'231.cell? (Addr.mk b4_1 4 none) = some (Value.string s240) ∧
 ∃ (p241 : Option Addr),
 ∃ (n242 : Nat),
 ∃ (c243 : Nat),
 w'231.cell? (Addr.mk b4_1 5 none) = some (Value.slice p241 n242 c243) ∧
 ∃ (n244 : Int),
 w'231.cell? (Addr.mk b1_1 0 none) = some (Value.int IntKind.i64 n244) ∧
 ∃ (s245 : ByteArray),
 w'231.cell? (Addr.mk b1_1 1 none) = some (Value.string s245) ∧
 ∃ (n246 : Int),
 w'231.cell? (Addr.mk b1_1 2 none) = some (Value.int IntKind.i64 n246) ∧
 ∃ (n247 : Int),
 w'231.cell? (Addr.mk b1_1 3 none) = some (Value.int IntKind.i64 n247) ∧
 ∃ (s248 : ByteArray),
 w'231.cell? (Addr.mk b1_1 4 none) = some (Value.string s248) ∧
 ∃ (p249 : Option Addr),
 ∃ (n250 : Nat),
 ∃ (c251 : Nat),
 w'231.cell? (Addr.mk b1_1 5 none) = some (Value.slice p249 n250 c251) ∧
 (Calls Tryd.prog 24
 #[Value.int IntKind.i64 n235,
 Value.agg #[Value.int IntKind.i64 n236, Value.string s237, Value.int IntKind.i64 n238, Value.int IntKind.i64 n239, Value.string s240, Value.slice p241 n242 c243],
 Value.agg #[Value.int IntKind.i64 n244, Value.string s245, Value.int IntKind.i64 n246, Value.int IntKind.i64 n247, Value.string s248, Value.slice p249 n250 c251]]
 w'231 fun (e252 : Ending) (w253 : World) ↦
 ∃ (n254 : Int),
 ∃ (s255 : ByteArray),
 ∃ (n256 : Int),
 ∃ (n257 : Int),
 ∃ (s258 : ByteArray),
 ∃ (p259 : Option Addr),
 ∃ (n260 : Nat),
 ∃ (c261 : Nat),
 e252 =
 Ending.returned
 (Value.agg #[Value.int IntKind.i64 n254, Value.string s255, Value.int IntKind.i64 n256, Value.int IntKind.i64 n257, Value.string s258, Value.slice p259 n260 c261]) ∧
 (Calls Tryd.prog 16
 #[Value.slice cols_p cols_n cols_c, Value.slice row_p row_n row_c,
 Value.agg #[Value.int IntKind.i64 n254, Value.string s255, Value.int IntKind.i64 n256, Value.int IntKind.i64 n257, Value.string s258, Value.slice p259 n260 c261]]
 w253 fun (e262 : Ending) (w263 : World) ↦
 ∃ (n264 : Int),
 ∃ (n265 : Int),
 ∃ (s266 : ByteArray),
 ∃ (n267 : Int),
 e262 = Ending.returned (Value.tuple #[Value.agg #[Value.int IntKind.i64 n264, Value.int IntKind.i64 n265, Value.string s266], Value.int IntKind.i64 n267]) ∧
 ∀ (b268 : Nat) (w'269 : World),
 New w263 (Obj.cells #[Value.int IntKind.i64 0, Value.int IntKind.i64 0, Value.string (ByteArray.mk #[])] 26) b268 w'269 →
 Same w263 w'269 ∧
 (∃ (u271 : Value), w'269.cell? (Addr.mk b268 0 none) = some u271) ∧
 w'269.frozen? (Addr.mk b268 0 none) = false ∧
 (∃ (u272 : Value), w'269.cell? (Addr.mk b268 1 none) = some u272) ∧
 w'269.frozen? (Addr.mk b268 1 none) = false ∧
 (∃ (u273 : Value), w'269.cell? (Addr.mk b268 2 none) = some u273) ∧
 w'269.frozen? (Addr.mk b268 2 none) = false ∧
 ∀ (w'274 : World),
 Put w'269 b268 0 [Value.int IntKind.i64 n264, Value.int IntKind.i64 n265, Value.string s266] w'274 →
 ∃ (n276 : Int),
 w'274.cell? (Addr.mk b217 0 none) = some (Value.int IntKind.i64 n276) ∧
 ∃ (n277 : Int),
 w'274.cell? (Addr.mk b217 1 none) = some (Value.int IntKind.i64 n277) ∧
 ∃ (s278 : ByteArray),
 w'274.cell? (Addr.mk b217 2 none) = some (Value.string s278) ∧
 ∃ (n279 : Int),
 w'274.cell? (Addr.mk b268 0 none) = some (Value.int IntKind.i64 n279) ∧
 ∃ (n280 : Int),
 w'274.cell? (Addr.mk b268 1 none) = some (Value.int IntKind.i64 n280) ∧
 ∃ (s281 : ByteArray),
 w'274.cell? (Addr.mk b268 2 none) = some (Value.string s281) ∧
 ((n276 ≠ n279 ∨ n277 ≠ n280 ∨ s278 ≠ s281) ∨ n225 ≠ n267 → R (Ending.returned (Value.bool false)) w'274) ∧
 ((n276 = n279 ∧ n277 = n280 ∧ s278 = s281) ∧ n225 = n267 → I59 (IntKind.i64.wrap (n61 + 1)) w'274 ∧ M60 (IntKind.i64.wrap (n61 + 1)) w'274 < M60 n61 w'62)) ∧
 ∀ (b284 : Nat) (w'285 : World),
 New w253 (Obj.cells #[Value.int IntKind.i64 0, Value.int IntKind.i64 0, Value.string (ByteArray.mk #[])] 26) b284 w'285 →
 Same w253 w'285 ∧
 Calls Tryd.prog 16
 #[Value.slice cols_p cols_n cols_c, Value.slice row_p row_n row_c,
 Value.agg #[Value.int IntKind.i64 n254, Value.string s255, Value.int IntKind.i64 n256, Value.int IntKind.i64 n257, Value.string s258, Value.slice p259 n260 c261]]
 w'285 fun (e287 : Ending) (w288 : World) ↦
 ∃ (n289 : Int),
 ∃ (n290 : Int),
 ∃ (s291 : ByteArray),
 ∃ (n292 : Int),
 e287 = Ending.returned (Value.tuple #[Value.agg #[Value.int IntKind.i64 n289, Value.int IntKind.i64 n290, Value.string s291], Value.int IntKind.i64 n292]) ∧
 (∃ (u293 : Value), w288.cell? (Addr.mk b284 0 none) = some u293) ∧
 w288.frozen? (Addr.mk b284 0 none) = false ∧
 (∃ (u294 : Value), w288.cell? (Addr.mk b284 1 none) = some u294) ∧
 w288.frozen? (Addr.mk b284 1 none) = false ∧
 (∃ (u295 : Value), w288.cell? (Addr.mk b284 2 none) = some u295) ∧
 w288.frozen? (Addr.mk b284 2 none) = false ∧
 ∀ (w'296 : World),
 Put w288 b284 0 [Value.int IntKind.i64 n289, Value.int IntKind.i64 n290, Value.string s291] w'296 →
 ∃ (n298 : Int),
 w'296.cell? (Addr.mk b217 0 none) = some (Value.int IntKind.i64 n298) ∧
 ∃ (n299 : Int),
 w'296.cell? (Addr.mk b217 1 none) = some (Value.int IntKind.i64 n299) ∧
 ∃ (s300 : ByteArray),
 w'296.cell? (Addr.mk b217 2 none) = some (Value.string s300) ∧
 ∃ (n301 : Int),
 w'296.cell? (Addr.mk b284 0 none) = some (Value.int IntKind.i64 n301) ∧
 ∃ (n302 : Int),
 w'296.cell? (Addr.mk b284 1 none) = some (Value.int IntKind.i64 n302) ∧
 ∃ (s303 : ByteArray),
 w'296.cell? (Addr.mk b284 2 none) = some (Value.string s303) ∧
 ((n298 ≠ n301 ∨ n299 ≠ n302 ∨ s300 ≠ s303) ∨ n225 ≠ n292 → R (Ending.returned (Value.bool false)) w'296) ∧
 ((n298 = n301 ∧ n299 = n302 ∧ s300 = s303) ∧ n225 = n292 → I59 (IntKind.i64.wrap (n61 + 1)) w'296 ∧ M60 (IntKind.i64.wrap (n61 + 1)) w'296 < M60 n61 w'62)) ∧
 ∀ (b306 : Nat) (w'307 : World),
 New w'231 (Obj.cells #[Value.int IntKind.i64 0, Value.int IntKind.i64 0, Value.string (ByteArray.mk #[])] 26) b306 w'307 →
 Same w'231 w'307 ∧
 Calls Tryd.prog 24
 #[Value.int IntKind.i64 n235,
 Value.agg #[Value.int IntKind.i64 n236, Value.string s237, Value.int IntKind.i64 n238, Value.int IntKind.i64 n239, Value.string s240, Value.slice p241 n242 c243],
 Value.agg #[Value.int IntKind.i64 n244, Value.string s245, Value.int IntKind.i64 n246, Value.int IntKind.i64 n247, Value.string s248, Value.slice p249 n250 c251]]
 w'307 fun (e309 : Ending) (w310 : World) ↦
 ∃ (n311 : Int),
 ∃ (s312 : ByteArray),
 ∃ (n313 : Int),
 ∃ (n314 : Int),
 ∃ (s315 : ByteArray),
 ∃ (p316 : Option Addr),
 ∃ (n317 : Nat),
 ∃ (c318 : Nat),
 e309 =
 Ending.returned
 (Value.agg #[Value.int IntKind.i64 n311, Value.string s312, Value.int IntKind.i64 n313, Value.int IntKind.i64 n314, Value.string s315, Value.slice p316 n317 c318]) ∧
 Calls Tryd.prog 16
 #[Value.slice cols_p cols_n cols_c, Value.slice row_p row_n row_c,
 Value.agg #[Value.int IntKind.i64 n311, Value.string s312, Value.int IntKind.i64 n313, Value.int IntKind.i64 n314, Value.string s315, Value.slice p316 n317 c318]]
 w310 fun (e319 : Ending) (w320 : World) ↦
 ∃ (n321 : Int),
 ∃ (n322 : Int),
 ∃ (s323 : ByteArray),
 ∃ (n324 : Int),
 e319 = Ending.returned (Value.tuple #[Value.agg #[Value.int IntKind.i64 n321, Value.int IntKind.i64 n322, Value.string s323], Value.int IntKind.i64 n324]) ∧
 (∃ (u325 : Value), w320.cell? (Addr.mk b306 0 none) = some u325) ∧
 w320.frozen? (Addr.mk b306 0 none) = false ∧
 (∃ (u326 : Value), w320.cell? (Addr.mk b306 1 none) = some u326) ∧
 w320.frozen? (Addr.mk b306 1 none) = false ∧
 (∃ (u327 : Value), w320.cell? (Addr.mk b306 2 none) = some u327) ∧
 w320.frozen? (Addr.mk b306 2 none) = false ∧
 ∀ (w'328 : World),
 Put w320 b306 0 [Value.int IntKind.i64 n321, Value.int IntKind.i64 n322, Value.string s323] w'328 →
 ∃ (n330 : Int),
 w'328.cell? (Addr.mk b217 0 none) = some (Value.int IntKind.i64 n330) ∧
 ∃ (n331 : Int),
 w'328.cell? (Addr.mk b217 1 none) = some (Value.int IntKind.i64 n331) ∧
 ∃ (s332 : ByteArray),
 w'328.cell? (Addr.mk b217 2 none) = some (Value.string s332) ∧
 ∃ (n333 : Int),
 w'328.cell? (Addr.mk b306 0 none) = some (Value.int IntKind.i64 n333) ∧
 ∃ (n334 : Int),
 w'328.cell? (Addr.mk b306 1 none) = some (Value.int IntKind.i64 n334) ∧
 ∃ (s335 : ByteArray),
 w'328.cell? (Addr.mk b306 2 none) = some (Value.string s335) ∧
 ((n330 ≠ n333 ∨ n331 ≠ n334 ∨ s332 ≠ s335) ∨ n225 ≠ n324 → R (Ending.returned (Value.bool false)) w'328) ∧
 ((n330 = n333 ∧ n331 = n334 ∧ s332 = s335) ∧ n225 = n324 → I59 (IntKind.i64.wrap (n61 + 1)) w'328 ∧ M60 (IntKind.i64.wrap (n61 + 1)) w'328 < M60 n61 w'62)) ∧
 ∀ (b338 : Nat) (w'339 : World),
 New w'65 (Obj.cells #[Value.int IntKind.i64 0, Value.int IntKind.i64 0, Value.string (ByteArray.mk #[])] 26) b338 w'339 →
 Same w'65 w'339 ∧
 Calls Tryd.prog 24
 #[Value.int IntKind.i64 n69,
 Value.agg #[Value.int IntKind.i64 n70, Value.string s71, Value.int IntKind.i64 n72, Value.int IntKind.i64 n73, Value.string s74, Value.slice p75 n76 c77],
 Value.agg #[Value.int IntKind.i64 n78, Value.string s79, Value.int IntKind.i64 n80, Value.int IntKind.i64 n81, Value.string s82, Value.slice p83 n84 c85]]
 w'339 fun (e341 : Ending) (w342 : World) ↦
 ∃ (n343 : Int),
 ∃ (s344 : ByteArray),
 ∃ (n345 : Int),
 ∃ (n346 : Int),
 ∃ (s347 : ByteArray),
 ∃ (p348 : Option Addr),
 ∃ (n349 : Nat),
 ∃ (c350 : Nat),
 e341 =
 Ending.returned
 (Value.agg #[Value.int IntKind.i64 n343, Value.string s344, Value.int IntKind.i64 n345, Value.int IntKind.i64 n346, Value.string s347, Value.slice p348 n349 c350]) ∧
 Calls Tryd.prog 16
 #[Value.slice cols_p cols_n cols_c, Value.slice row_p row_n row_c,
 Value.agg #[Value.int IntKind.i64 n343, Value.string s344, Value.int IntKind.i64 n345, Value.int IntKind.i64 n346, Value.string s347, Value.slice p348 n349 c350]]
 w342 fun (e351 : Ending) (w352 : World) ↦
 ∃ (n353 : Int),
 ∃ (n354 : Int),
 ∃ (s355 : ByteArray),
 ∃ (n356 : Int),
 e351 = Ending.returned (Value.tuple #[Value.agg #[Value.int IntKind.i64 n353, Value.int IntKind.i64 n354, Value.string s355], Value.int IntKind.i64 n356]) ∧
 (∃ (u357 : Value), w352.cell? (Addr.mk b338 0 none) = some u357) ∧
 w352.frozen? (Addr.mk b338 0 none) = false ∧
 (∃ (u358 : Value), w352.cell? (Addr.mk b338 1 none) = some u358) ∧
 w352.frozen? (Addr.mk b338 1 none) = false ∧
 (∃ (u359 : Value), w352.cell? (Addr.mk b338 2 none) = some u359) ∧
 w352.frozen? (Addr.mk b338 2 none) = false ∧
 ∀ (w'360 : World),
 Put w352 b338 0 [Value.int IntKind.i64 n353, Value.int IntKind.i64 n354, Value.string s355] w'360 →
 ∀ (w'362 : World),
 Drew w'360 w'362 →
 ∃ (b364 : Nat),
 ∃ (o365 : Nat),
 some (Addr.mk b56 0 none) = some (Addr.mk b364 o365 none) ∧
 0 ≤ n61 ∧
 n61 < 5 ∧
 ∃ (n366 : Int),
 w'362.cell? (Addr.mk b364 (o365 + n61.toNat) none) = some (Value.int IntKind.i64 n366) ∧
 ∃ (n367 : Int),
 w'362.cell? (Addr.mk b4_1 0 none) = some (Value.int IntKind.i64 n367) ∧
 ∃ (s368 : ByteArray),
 w'362.cell? (Addr.mk b4_1 1 none) = some (Value.string s368) ∧
 ∃ (n369 : Int),
 w'362.cell? (Addr.mk b4_1 2 none) = some (Value.int IntKind.i64 n369) ∧
 ∃ (n370 : Int),
 w'362.cell? (Addr.mk b4_1 3 none) = some (Value.int IntKind.i64 n370) ∧
 ∃ (s371 : ByteArray),
 w'362.cell? (Addr.mk b4_1 4 none) = some (Value.string s371) ∧
 ∃ (p372 : Option Addr),
 ∃ (n373 : Nat),
 ∃ (c374 : Nat),
 w'362.cell? (Addr.mk b4_1 5 none) = some (Value.slice p372 n373 c374) ∧
 ∃ (n375 : Int),
 w'362.cell? (Addr.mk b1_1 0 none) = some (Value.int IntKind.i64 n375) ∧
 ∃ (s376 : ByteArray),
 w'362.cell? (Addr.mk b1_1 1 none) = some (Value.string s376) ∧
 ∃ (n377 : Int),
 w'362.cell? (Addr.mk b1_1 2 none) = some (Value.int IntKind.i64 n377) ∧
 ∃ (n378 : Int),
 w'362.cell? (Addr.mk b1_1 3 none) = some (Value.int IntKind.i64 n378) ∧
 ∃ (s379 : ByteArray),
 w'362.cell? (Addr.mk b1_1 4 none) = some (Value.string s379) ∧
 ∃ (p380 : Option Addr),
 ∃ (n381 : Nat),
 ∃ (c382 : Nat),
 w'362.cell? (Addr.mk b1_1 5 none) = some (Value.slice p380 n381 c382) ∧
 (Calls Tryd.prog 24
 #[Value.int IntKind.i64 n366,
 Value.agg #[Value.int IntKind.i64 n367, Value.string s368, Value.int IntKind.i64 n369, Value.int IntKind.i64 n370, Value.string s371, Value.slice p372 n373 c374],
 Value.agg #[Value.int IntKind.i64 n375, Value.string s376, Value.int IntKind.i64 n377, Value.int IntKind.i64 n378, Value.string s379, Value.slice p380 n381 c382]]
 w'362 fun (e383 : Ending) (w384 : World) ↦
 ∃ (n385 : Int),
 ∃ (s386 : ByteArray),
 ∃ (n387 : Int),
 ∃ (n388 : Int),
 ∃ (s389 : ByteArray),
 ∃ (p390 : Option Addr),
 ∃ (n391 : Nat),
 ∃ (c392 : Nat),
 e383 =
 Ending.returned
 (Value.agg #[Value.int IntKind.i64 n385, Value.string s386, Value.int IntKind.i64 n387, Value.int IntKind.i64 n388, Value.string s389, Value.slice p390 n391 c392]) ∧
 (Calls Tryd.prog 16
 #[Value.slice cols_p cols_n cols_c, Value.slice row_p row_n row_c,
 Value.agg #[Value.int IntKind.i64 n385, Value.string s386, Value.int IntKind.i64 n387, Value.int IntKind.i64 n388, Value.string s389, Value.slice p390 n391 c392]]
 w384 fun (e393 : Ending) (w394 : World) ↦
 ∃ (n395 : Int),
 ∃ (n396 : Int),
 ∃ (s397 : ByteArray),
 ∃ (n398 : Int),
 e393 = Ending.returned (Value.tuple #[Value.agg #[Value.int IntKind.i64 n395, Value.int IntKind.i64 n396, Value.string s397], Value.int IntKind.i64 n398]) ∧
 ∀ (b399 : Nat) (w'400 : World),
 New w394 (Obj.cells #[Value.int IntKind.i64 0, Value.int IntKind.i64 0, Value.string (ByteArray.mk #[])] 26) b399 w'400 →
 Same w394 w'400 ∧
 (∃ (u402 : Value), w'400.cell? (Addr.mk b399 0 none) = some u402) ∧
 w'400.frozen? (Addr.mk b399 0 none) = false ∧
 (∃ (u403 : Value), w'400.cell? (Addr.mk b399 1 none) = some u403) ∧
 w'400.frozen? (Addr.mk b399 1 none) = false ∧
 (∃ (u404 : Value), w'400.cell? (Addr.mk b399 2 none) = some u404) ∧
 w'400.frozen? (Addr.mk b399 2 none) = false ∧
 ∀ (w'405 : World),
 Put w'400 b399 0 [Value.int IntKind.i64 n395, Value.int IntKind.i64 n396, Value.string s397] w'405 →
 ∃ (n407 : Int),
 w'405.cell? (Addr.mk b338 0 none) = some (Value.int IntKind.i64 n407) ∧
 ∃ (n408 : Int),
 w'405.cell? (Addr.mk b338 1 none) = some (Value.int IntKind.i64 n408) ∧
 ∃ (s409 : ByteArray),
 w'405.cell? (Addr.mk b338 2 none) = some (Value.string s409) ∧
 ∃ (n410 : Int),
 w'405.cell? (Addr.mk b399 0 none) = some (Value.int IntKind.i64 n410) ∧
 ∃ (n411 : Int),
 w'405.cell? (Addr.mk b399 1 none) = some (Value.int IntKind.i64 n411) ∧
 ∃ (s412 : ByteArray),
 w'405.cell? (Addr.mk b399 2 none) = some (Value.string s412) ∧
 ((n407 ≠ n410 ∨ n408 ≠ n411 ∨ s409 ≠ s412) ∨ n356 ≠ n398 → R (Ending.returned (Value.bool false)) w'405) ∧
 ((n407 = n410 ∧ n408 = n411 ∧ s409 = s412) ∧ n356 = n398 → I59 (IntKind.i64.wrap (n61 + 1)) w'405 ∧ M60 (IntKind.i64.wrap (n61 + 1)) w'405 < M60 n61 w'62)) ∧
 ∀ (b415 : Nat) (w'416 : World),
 New w384 (Obj.cells #[Value.int IntKind.i64 0, Value.int IntKind.i64 0, Value.string (ByteArray.mk #[])] 26) b415 w'416 →
 Same w384 w'416 ∧
 Calls Tryd.prog 16
 #[Value.slice cols_p cols_n cols_c, Value.slice row_p row_n row_c,
 Value.agg #[Value.int IntKind.i64 n385, Value.string s386, Value.int IntKind.i64 n387, Value.int IntKind.i64 n388, Value.string s389, Value.slice p390 n391 c392]]
 w'416 fun (e418 : Ending) (w419 : World) ↦
 ∃ (n420 : Int),
 ∃ (n421 : Int),
 ∃ (s422 : ByteArray),
 ∃ (n423 : Int),
 e418 = Ending.returned (Value.tuple #[Value.agg #[Value.int IntKind.i64 n420, Value.int IntKind.i64 n421, Value.string s422], Value.int IntKind.i64 n423]) ∧
 (∃ (u424 : Value), w419.cell? (Addr.mk b415 0 none) = some u424) ∧
 w419.frozen? (Addr.mk b415 0 none) = false ∧
 (∃ (u425 : Value), w419.cell? (Addr.mk b415 1 none) = some u425) ∧
 w419.frozen? (Addr.mk b415 1 none) = false ∧
 (∃ (u426 : Value), w419.cell? (Addr.mk b415 2 none) = some u426) ∧
 w419.frozen? (Addr.mk b415 2 none) = false ∧
 ∀ (w'427 : World),
 Put w419 b415 0 [Value.int IntKind.i64 n420, Value.int IntKind.i64 n421, Value.string s422] w'427 →
 ∃ (n429 : Int),
 w'427.cell? (Addr.mk b338 0 none) = some (Value.int IntKind.i64 n429) ∧
 ∃ (n430 : Int),
 w'427.cell? (Addr.mk b338 1 none) = some (Value.int IntKind.i64 n430) ∧
 ∃ (s431 : ByteArray),
 w'427.cell? (Addr.mk b338 2 none) = some (Value.string s431) ∧
 ∃ (n432 : Int),
 w'427.cell? (Addr.mk b415 0 none) = some (Value.int IntKind.i64 n432) ∧
 ∃ (n433 : Int),
 w'427.cell? (Addr.mk b415 1 none) = some (Value.int IntKind.i64 n433) ∧
 ∃ (s434 : ByteArray),
 w'427.cell? (Addr.mk b415 2 none) = some (Value.string s434) ∧
 ((n429 ≠ n432 ∨ n430 ≠ n433 ∨ s431 ≠ s434) ∨ n356 ≠ n423 → R (Ending.returned (Value.bool false)) w'427) ∧
 ((n429 = n432 ∧ n430 = n433 ∧ s431 = s434) ∧ n356 = n423 → I59 (IntKind.i64.wrap (n61 + 1)) w'427 ∧ M60 (IntKind.i64.wrap (n61 + 1)) w'427 < M60 n61 w'62)) ∧
 ∀ (b437 : Nat) (w'438 : World),
 New w'362 (Obj.cells #[Value.int IntKind.i64 0, Value.int IntKind.i64 0, Value.string (ByteArray.mk #[])] 26) b437 w'438 →
 Same w'362 w'438 ∧
 Calls Tryd.prog 24
 #[Value.int IntKind.i64 n366,
 Value.agg #[Value.int IntKind.i64 n367, Value.string s368, Value.int IntKind.i64 n369, Value.int IntKind.i64 n370, Value.string s371, Value.slice p372 n373 c374],
 Value.agg #[Value.int IntKind.i64 n375, Value.string s376, Value.int IntKind.i64 n377, Value.int IntKind.i64 n378, Value.string s379, Value.slice p380 n381 c382]]
 w'438 fun (e440 : Ending) (w441 : World) ↦
 ∃ (n442 : Int),
 ∃ (s443 : ByteArray),
 ∃ (n444 : Int),
 ∃ (n445 : Int),
 ∃ (s446 : ByteArray),
 ∃ (p447 : Option Addr),
 ∃ (n448 : Nat),
 ∃ (c449 : Nat),
 e440 =
 Ending.returned
 (Value.agg #[Value.int IntKind.i64 n442, Value.string s443, Value.int IntKind.i64 n444, Value.int IntKind.i64 n445, Value.string s446, Value.slice p447 n448 c449]) ∧
 Calls Tryd.prog 16
 #[Value.slice cols_p cols_n cols_c, Value.slice row_p row_n row_c,
 Value.agg #[Value.int IntKind.i64 n442, Value.string s443, Value.int IntKind.i64 n444, Value.int IntKind.i64 n445, Value.string s446, Value.slice p447 n448 c449]]
 w441 fun (e450 : Ending) (w451 : World) ↦
 ∃ (n452 : Int),
 ∃ (n453 : Int),
 ∃ (s454 : ByteArray),
 ∃ (n455 : Int),
 e450 = Ending.returned (Value.tuple #[Value.agg #[Value.int IntKind.i64 n452, Value.int IntKind.i64 n453, Value.string s454], Value.int IntKind.i64 n455]) ∧
 (∃ (u456 : Value), w451.cell? (Addr.mk b437 0 none) = some u456) ∧
 w451.frozen? (Addr.mk b437 0 none) = false ∧
 (∃ (u457 : Value), w451.cell? (Addr.mk b437 1 none) = some u457) ∧
 w451.frozen? (Addr.mk b437 1 none) = false ∧
 (∃ (u458 : Value), w451.cell? (Addr.mk b437 2 none) = some u458) ∧
 w451.frozen? (Addr.mk b437 2 none) = false ∧
 ∀ (w'459 : World),
 Put w451 b437 0 [Value.int IntKind.i64 n452, Value.int IntKind.i64 n453, Value.string s454] w'459 →
 ∃ (n461 : Int),
 w'459.cell? (Addr.mk b338 0 none) = some (Value.int IntKind.i64 n461) ∧
 ∃ (n462 : Int),
 w'459.cell? (Addr.mk b338 1 none) = some (Value.int IntKind.i64 n462) ∧
 ∃ (s463 : ByteArray),
 w'459.cell? (Addr.mk b338 2 none) = some (Value.string s463) ∧
 ∃ (n464 : Int),
 w'459.cell? (Addr.mk b437 0 none) = some (Value.int IntKind.i64 n464) ∧
 ∃ (n465 : Int),
 w'459.cell? (Addr.mk b437 1 none) = some (Value.int IntKind.i64 n465) ∧
 ∃ (s466 : ByteArray),
 w'459.cell? (Addr.mk b437 2 none) = some (Value.string s466) ∧
 ((n461 ≠ n464 ∨ n462 ≠ n465 ∨ s463 ≠ s466) ∨ n356 ≠ n455 → R (Ending.returned (Value.bool false)) w'459) ∧
 ((n461 = n464 ∧ n462 = n465 ∧ s463 = s466) ∧ n356 = n455 → I59 (IntKind.i64.wrap (n61 + 1)) w'459 ∧ M60 (IntKind.i64.wrap (n61 + 1)) w'459 < M60 n61 w'62)) ∧
 (5 ≤ n61 → R (Ending.returned (Value.bool b9)) w'62))

set_option maxRecDepth 100000 in
theorem lawSwaps_eq (cols_p : Option Addr) (cols_n : Nat) (cols_c : Nat) (row_p : Option Addr) (row_n : Nat) (row_c : Nat) (a0 : Int) (a1 : ByteArray) (a2 : Int) (a3 : Int) (a4 : ByteArray) (a5_p : Option Addr) (a5_n : Nat) (a5_c : Nat) (b0 : Int) (b1 : ByteArray) (b2 : Int) (b3 : Int) (b4 : ByteArray) (b5_p : Option Addr) (b5_n : Nat) (b5_c : Nat) (w : World) (R : Ending → World → Prop) : lawSwaps_T cols_p cols_n cols_c row_p row_n row_c a0 a1 a2 a3 a4 a5_p a5_n a5_c b0 b1 b2 b3 b4 b5_p b5_n b5_c w R = vcFn Tryd.prog [] [(10, [2, 4, 6, 8, 10, 12, 14, 16, 1, 18, 1, 20, 22, 24, 26, 29, 30, 32, 0, 29, 20, 22, 24, 26, 30, 32, 0, 29, 18, 20, 22, 24, 26, 30, 32, 0]), (11, [2, 4, 6, 8, 10, 12, 14, 16, 1, 18, 1, 20, 22, 24, 26, 29, 30, 32, 0, 29, 20, 22, 24, 26, 30, 32, 0, 29, 18, 20, 22, 24, 26, 30, 32, 0])] Tryd.f9 [Value.slice cols_p cols_n cols_c, Value.slice row_p row_n row_c, Value.agg
 #[Value.int IntKind.i64 a0, Value.string a1, Value.int IntKind.i64 a2, Value.int IntKind.i64 a3, Value.string a4,
 Value.slice a5_p a5_n a5_c], Value.agg
 #[Value.int IntKind.i64 b0, Value.string b1, Value.int IntKind.i64 b2, Value.int IntKind.i64 b3, Value.string b4,
 Value.slice b5_p b5_n b5_c]] w R := by kernel_rfl

set_option maxRecDepth 100000 in
theorem lawSwaps_vc (cols_p : Option Addr) (cols_n : Nat) (cols_c : Nat) (row_p : Option Addr) (row_n : Nat) (row_c : Nat) (a0 : Int) (a1 : ByteArray) (a2 : Int) (a3 : Int) (a4 : ByteArray) (a5_p : Option Addr) (a5_n : Nat) (a5_c : Nat) (b0 : Int) (b1 : ByteArray) (b2 : Int) (b3 : Int) (b4 : ByteArray) (b5_p : Option Addr) (b5_n : Nat) (b5_c : Nat) (w : World) (R : Ending → World → Prop) (h : lawSwaps_T cols_p cols_n cols_c row_p row_n row_c a0 a1 a2 a3 a4 a5_p a5_n a5_c b0 b1 b2 b3 b4 b5_p b5_n b5_c w R) : Calls Tryd.prog 9 #[Value.slice cols_p cols_n cols_c, Value.slice row_p row_n row_c, Value.agg
 #[Value.int IntKind.i64 a0, Value.string a1, Value.int IntKind.i64 a2, Value.int IntKind.i64 a3, Value.string a4,
 Value.slice a5_p a5_n a5_c], Value.agg
 #[Value.int IntKind.i64 b0, Value.string b1, Value.int IntKind.i64 b2, Value.int IntKind.i64 b3, Value.string b4,
 Value.slice b5_p b5_n b5_c]] w R :=
  calls_of_vc (args := [Value.slice cols_p cols_n cols_c, Value.slice row_p row_n row_c, Value.agg
 #[Value.int IntKind.i64 a0, Value.string a1, Value.int IntKind.i64 a2, Value.int IntKind.i64 a3, Value.string a4,
 Value.slice a5_p a5_n a5_c], Value.agg
 #[Value.int IntKind.i64 b0, Value.string b1, Value.int IntKind.i64 b2, Value.int IntKind.i64 b3, Value.string b4,
 Value.slice b5_p b5_n b5_c]]) [] [(10, [2, 4, 6, 8, 10, 12, 14, 16, 1, 18, 1, 20, 22, 24, 26, 29, 30, 32, 0, 29, 20, 22, 24, 26, 30, 32, 0, 29, 18, 20, 22, 24, 26, 30, 32, 0]), (11, [2, 4, 6, 8, 10, 12, 14, 16, 1, 18, 1, 20, 22, 24, 26, 29, 30, 32, 0, 29, 20, 22, 24, 26, 30, 32, 0, 29, 18, 20, 22, 24, 26, 30, 32, 0])] Tryd.mixed Tryd.func9 (cast (lawSwaps_eq _ _ _ _ _ _ _ _ _ _ _ _ _ _ _ _ _ _ _ _ _ _ w R) h)

set_option maxRecDepth 100000 in
def lawOrders_T (cols_p : Option Addr) (cols_n : Nat) (cols_c : Nat) (row_p : Option Addr) (row_n : Nat) (row_c : Nat) (a0 : Int) (a1 : ByteArray) (a2 : Int) (a3 : Int) (a4 : ByteArray) (a5_p : Option Addr) (a5_n : Nat) (a5_c : Nat) (b0 : Int) (b1 : ByteArray) (b2 : Int) (b3 : Int) (b4 : ByteArray) (b5_p : Option Addr) (b5_n : Nat) (b5_c : Nat) (w : World) (R : Ending → World → Prop) : Prop :=
  ∀ (b1_1 : Nat) (w'2 : World),
 New w (Obj.cells #[Value.int IntKind.i64 a0, Value.string a1, Value.int IntKind.i64 a2, Value.int IntKind.i64 a3, Value.string a4, Value.slice a5_p a5_n a5_c] 29) b1_1
 w'2 →
 ∀ (b4_1 : Nat) (w'5 : World),
 New w'2 (Obj.cells #[Value.int IntKind.i64 b0, Value.string b1, Value.int IntKind.i64 b2, Value.int IntKind.i64 b3, Value.string b4, Value.slice b5_p b5_n b5_c] 29) b4_1
 w'5 →
 Calls Tryd.prog 11 #[] w'5 fun (e7 : Ending) (w8 : World) ↦
 ∃ (b9 : Bool),
 e7 = Ending.returned (Value.bool b9) ∧
 ∃ (n10 : Int),
 w8.cell? (Addr.mk b1_1 0 none) = some (Value.int IntKind.i64 n10) ∧
 ∃ (s11 : ByteArray),
 w8.cell? (Addr.mk b1_1 1 none) = some (Value.string s11) ∧
 ∃ (n12 : Int),
 w8.cell? (Addr.mk b1_1 2 none) = some (Value.int IntKind.i64 n12) ∧
 ∃ (n13 : Int),
 w8.cell? (Addr.mk b1_1 3 none) = some (Value.int IntKind.i64 n13) ∧
 ∃ (s14 : ByteArray),
 w8.cell? (Addr.mk b1_1 4 none) = some (Value.string s14) ∧
 ∃ (p15 : Option Addr),
 ∃ (n16 : Nat),
 ∃ (c17 : Nat),
 w8.cell? (Addr.mk b1_1 5 none) = some (Value.slice p15 n16 c17) ∧
 ∃ (n18 : Int),
 w8.cell? (Addr.mk b4_1 0 none) = some (Value.int IntKind.i64 n18) ∧
 ∃ (s19 : ByteArray),
 w8.cell? (Addr.mk b4_1 1 none) = some (Value.string s19) ∧
 ∃ (n20 : Int),
 w8.cell? (Addr.mk b4_1 2 none) = some (Value.int IntKind.i64 n20) ∧
 ∃ (n21 : Int),
 w8.cell? (Addr.mk b4_1 3 none) = some (Value.int IntKind.i64 n21) ∧
 ∃ (s22 : ByteArray),
 w8.cell? (Addr.mk b4_1 4 none) = some (Value.string s22) ∧
 ∃ (p23 : Option Addr),
 ∃ (n24 : Nat),
 ∃ (c25 : Nat),
 w8.cell? (Addr.mk b4_1 5 none) = some (Value.slice p23 n24 c25) ∧
 Calls Tryd.prog 24
 #[Value.int IntKind.i64 10,
 Value.agg #[Value.int IntKind.i64 n10, Value.string s11, Value.int IntKind.i64 n12, Value.int IntKind.i64 n13, Value.string s14, Value.slice p15 n16 c17],
 Value.agg #[Value.int IntKind.i64 n18, Value.string s19, Value.int IntKind.i64 n20, Value.int IntKind.i64 n21, Value.string s22, Value.slice p23 n24 c25]]
 w8 fun (e26 : Ending) (w27 : World) ↦
 ∃ (n28 : Int),
 ∃ (s29 : ByteArray),
 ∃ (n30 : Int),
 ∃ (n31 : Int),
 ∃ (s32 : ByteArray),
 ∃ (p33 : Option Addr),
 ∃ (n34 : Nat),
 ∃ (c35 : Nat),
 e26 =
 Ending.returned
 (Value.agg #[Value.int IntKind.i64 n28, Value.string s29, Value.int IntKind.i64 n30, Value.int IntKind.i64 n31, Value.string s32, Value.slice p33 n34 c35]) ∧
 Calls Tryd.prog 16
 #[Value.slice cols_p cols_n cols_c, Value.slice row_p row_n row_c,
 Value.agg #[Value.int IntKind.i64 n28, Value.string s29, Value.int IntKind.i64 n30, Value.int IntKind.i64 n31, Value.string s32, Value.slice p33 n34 c35]]
 w27 fun (e36 : Ending) (w37 : World) ↦
 ∃ (n38 : Int),
 ∃ (n39 : Int),
 ∃ (s40 : ByteArray),
 ∃ (n41 : Int),
 e36 = Ending.returned (Value.tuple #[Value.agg #[Value.int IntKind.i64 n38, Value.int IntKind.i64 n39, Value.string s40], Value.int IntKind.i64 n41]) ∧
 ∀ (b42 : Nat) (w'43 : World),
 New w37 (Obj.cells #[Value.int IntKind.i64 0, Value.int IntKind.i64 0, Value.string (ByteArray.mk #[])] 26) b42 w'43 →
 (∃ (u45 : Value), w'43.cell? (Addr.mk b42 0 none) = some u45) ∧
 w'43.frozen? (Addr.mk b42 0 none) = false ∧
 (∃ (u46 : Value), w'43.cell? (Addr.mk b42 1 none) = some u46) ∧
 w'43.frozen? (Addr.mk b42 1 none) = false ∧
 (∃ (u47 : Value), w'43.cell? (Addr.mk b42 2 none) = some u47) ∧
 w'43.frozen? (Addr.mk b42 2 none) = false ∧
 ∀ (w'48 : World),
 Put w'43 b42 0 [Value.int IntKind.i64 n38, Value.int IntKind.i64 n39, Value.string s40] w'48 →
 ∃ (n50 : Int),
 w'48.cell? (Addr.mk b1_1 0 none) = some (Value.int IntKind.i64 n50) ∧
 ∃ (s51 : ByteArray),
 w'48.cell? (Addr.mk b1_1 1 none) = some (Value.string s51) ∧
 ∃ (n52 : Int),
 w'48.cell? (Addr.mk b1_1 2 none) = some (Value.int IntKind.i64 n52) ∧
 ∃ (n53 : Int),
 w'48.cell? (Addr.mk b1_1 3 none) = some (Value.int IntKind.i64 n53) ∧
 ∃ (s54 : ByteArray),
 w'48.cell? (Addr.mk b1_1 4 none) = some (Value.string s54) ∧
 ∃ (p55 : Option Addr),
 ∃ (n56 : Nat),
 ∃ (c57 : Nat),
 w'48.cell? (Addr.mk b1_1 5 none) = some (Value.slice p55 n56 c57) ∧
 ∃ (n58 : Int),
 w'48.cell? (Addr.mk b4_1 0 none) = some (Value.int IntKind.i64 n58) ∧
 ∃ (s59 : ByteArray),
 w'48.cell? (Addr.mk b4_1 1 none) = some (Value.string s59) ∧
 ∃ (n60 : Int),
 w'48.cell? (Addr.mk b4_1 2 none) = some (Value.int IntKind.i64 n60) ∧
 ∃ (n61 : Int),
 w'48.cell? (Addr.mk b4_1 3 none) = some (Value.int IntKind.i64 n61) ∧
 ∃ (s62 : ByteArray),
 w'48.cell? (Addr.mk b4_1 4 none) = some (Value.string s62) ∧
 ∃ (p63 : Option Addr),
 ∃ (n64 : Nat),
 ∃ (c65 : Nat),
 w'48.cell? (Addr.mk b4_1 5 none) = some (Value.slice p63 n64 c65) ∧
 Calls Tryd.prog 24
 #[Value.int IntKind.i64 9,
 Value.agg #[Value.int IntKind.i64 n50, Value.string s51, Value.int IntKind.i64 n52, Value.int IntKind.i64 n53, Value.string s54, Value.slice p55 n56 c57],
 Value.agg #[Value.int IntKind.i64 n58, Value.string s59, Value.int IntKind.i64 n60, Value.int IntKind.i64 n61, Value.string s62, Value.slice p63 n64 c65]]
 w'48 fun (e66 : Ending) (w67 : World) ↦
 ∃ (n68 : Int),
 ∃ (s69 : ByteArray),
 ∃ (n70 : Int),
 ∃ (n71 : Int),
 ∃ (s72 : ByteArray),
 ∃ (p73 : Option Addr),
 ∃ (n74 : Nat),
 ∃ (c75 : Nat),
 e66 =
 Ending.returned
 (Value.agg #[Value.int IntKind.i64 n68, Value.string s69, Value.int IntKind.i64 n70, Value.int IntKind.i64 n71, Value.string s72, Value.slice p73 n74 c75]) ∧
 Calls Tryd.prog 16
 #[Value.slice cols_p cols_n cols_c, Value.slice row_p row_n row_c,
 Value.agg #[Value.int IntKind.i64 n68, Value.string s69, Value.int IntKind.i64 n70, Value.int IntKind.i64 n71, Value.string s72, Value.slice p73 n74 c75]]
 w67 fun (e76 : Ending) (w77 : World) ↦
 ∃ (n78 : Int),
 ∃ (n79 : Int),
 ∃ (s80 : ByteArray),
 ∃ (n81 : Int),
 e76 = Ending.returned (Value.tuple #[Value.agg #[Value.int IntKind.i64 n78, Value.int IntKind.i64 n79, Value.string s80], Value.int IntKind.i64 n81]) ∧
 ∀ (b82 : Nat) (w'83 : World),
 New w77 (Obj.cells #[Value.int IntKind.i64 0, Value.int IntKind.i64 0, Value.string (ByteArray.mk #[])] 26) b82 w'83 →
 (∃ (u85 : Value), w'83.cell? (Addr.mk b82 0 none) = some u85) ∧
 w'83.frozen? (Addr.mk b82 0 none) = false ∧
 (∃ (u86 : Value), w'83.cell? (Addr.mk b82 1 none) = some u86) ∧
 w'83.frozen? (Addr.mk b82 1 none) = false ∧
 (∃ (u87 : Value), w'83.cell? (Addr.mk b82 2 none) = some u87) ∧
 w'83.frozen? (Addr.mk b82 2 none) = false ∧
 ∀ (w'88 : World),
 Put w'83 b82 0 [Value.int IntKind.i64 n78, Value.int IntKind.i64 n79, Value.string s80] w'88 →
 ∃ (n90 : Int),
 w'88.cell? (Addr.mk b4_1 0 none) = some (Value.int IntKind.i64 n90) ∧
 ∃ (s91 : ByteArray),
 w'88.cell? (Addr.mk b4_1 1 none) = some (Value.string s91) ∧
 ∃ (n92 : Int),
 w'88.cell? (Addr.mk b4_1 2 none) = some (Value.int IntKind.i64 n92) ∧
 ∃ (n93 : Int),
 w'88.cell? (Addr.mk b4_1 3 none) = some (Value.int IntKind.i64 n93) ∧
 ∃ (s94 : ByteArray),
 w'88.cell? (Addr.mk b4_1 4 none) = some (Value.string s94) ∧
 ∃ (p95 : Option Addr),
 ∃ (n96 : Nat),
 ∃ (c97 : Nat),
 w'88.cell? (Addr.mk b4_1 5 none) = some (Value.slice p95 n96 c97) ∧
 ∃ (n98 : Int),
 w'88.cell? (Addr.mk b1_1 0 none) = some (Value.int IntKind.i64 n98) ∧
 ∃ (s99 : ByteArray),
 w'88.cell? (Addr.mk b1_1 1 none) = some (Value.string s99) ∧
 ∃ (n100 : Int),
 w'88.cell? (Addr.mk b1_1 2 none) = some (Value.int IntKind.i64 n100) ∧
 ∃ (n101 : Int),
 w'88.cell? (Addr.mk b1_1 3 none) = some (Value.int IntKind.i64 n101) ∧
 ∃ (s102 : ByteArray),
 w'88.cell? (Addr.mk b1_1 4 none) = some (Value.string s102) ∧
 ∃ (p103 : Option Addr),
 ∃ (n104 : Nat),
 ∃ (c105 : Nat),
 w'88.cell? (Addr.mk b1_1 5 none) = some (Value.slice p103 n104 c105) ∧
 Calls Tryd.prog 24
 #[Value.int IntKind.i64 10,
 Value.agg #[Value.int IntKind.i64 n90, Value.string s91, Value.int IntKind.i64 n92, Value.int IntKind.i64 n93, Value.string s94, Value.slice p95 n96 c97],
 Value.agg #[Value.int IntKind.i64 n98, Value.string s99, Value.int IntKind.i64 n100, Value.int IntKind.i64 n101, Value.string s102, Value.slice p103 n104 c105]]
 w'88 fun (e106 : Ending) (w107 : World) ↦
 ∃ (n108 : Int),
 ∃ (s109 : ByteArray),
 ∃ (n110 : Int),
 ∃ (n111 : Int),
 ∃ (s112 : ByteArray),
 ∃ (p113 : Option Addr),
 ∃ (n114 : Nat),
 ∃ (c115 : Nat),
 e106 =
 Ending.returned
 (Value.agg #[Value.int IntKind.i64 n108, Value.string s109, Value.int IntKind.i64 n110, Value.int IntKind.i64 n111, Value.string s112, Value.slice p113 n114 c115]) ∧
 Calls Tryd.prog 16
 #[Value.slice cols_p cols_n cols_c, Value.slice row_p row_n row_c,
 Value.agg #[Value.int IntKind.i64 n108, Value.string s109, Value.int IntKind.i64 n110, Value.int IntKind.i64 n111, Value.string s112, Value.slice p113 n114 c115]]
 w107 fun (e116 : Ending) (w117 : World) ↦
 ∃ (n118 : Int),
 ∃ (n119 : Int),
 ∃ (s120 : ByteArray),
 ∃ (n121 : Int),
 e116 = Ending.returned (Value.tuple #[Value.agg #[Value.int IntKind.i64 n118, Value.int IntKind.i64 n119, Value.string s120], Value.int IntKind.i64 n121]) ∧
 ∀ (b122 : Nat) (w'123 : World),
 New w117 (Obj.cells #[Value.int IntKind.i64 0, Value.int IntKind.i64 0, Value.string (ByteArray.mk #[])] 26) b122 w'123 →
 (∃ (u125 : Value), w'123.cell? (Addr.mk b122 0 none) = some u125) ∧
 w'123.frozen? (Addr.mk b122 0 none) = false ∧
 (∃ (u126 : Value), w'123.cell? (Addr.mk b122 1 none) = some u126) ∧
 w'123.frozen? (Addr.mk b122 1 none) = false ∧
 (∃ (u127 : Value), w'123.cell? (Addr.mk b122 2 none) = some u127) ∧
 w'123.frozen? (Addr.mk b122 2 none) = false ∧
 ∀ (w'128 : World),
 Put w'123 b122 0 [Value.int IntKind.i64 n118, Value.int IntKind.i64 n119, Value.string s120] w'128 →
 ((n41 ≠ 0 ∨ n81 ≠ 0) ∨ n121 ≠ 0 →
 (b9 = true → R (Ending.returned (Value.bool (!decide (n41 = 0) && !decide (n81 = 0) && !decide (n121 = 0)))) w'128) ∧
 (b9 = false → R (Ending.returned (Value.bool false)) w'128)) ∧
 ((n41 = 0 ∧ n81 = 0) ∧ n121 = 0 →
 ∃ (n134 : Int),
 w'128.cell? (Addr.mk b42 0 none) = some (Value.int IntKind.i64 n134) ∧
 (n134 = 0 →
 (b9 = true →
 ∃ (n137 : Int),
 w'128.cell? (Addr.mk b82 0 none) = some (Value.int IntKind.i64 n137) ∧
 (n137 = 0 → ∃ (n139 : Int), w'128.cell? (Addr.mk b122 0 none) = some (Value.int IntKind.i64 n139) ∧ R (Ending.returned (Value.bool (decide (n139 = 0)))) w'128) ∧
 (n137 ≠ 0 → R (Ending.returned (Value.bool false)) w'128)) ∧
 (b9 = false → R (Ending.returned (Value.bool false)) w'128)) ∧
 (n134 ≠ 0 →
 (b9 = true →
 ∃ (n144 : Int),
 w'128.cell? (Addr.mk b42 1 none) = some (Value.int IntKind.i64 n144) ∧
 ∃ (n145 : Int),
 w'128.cell? (Addr.mk b82 1 none) = some (Value.int IntKind.i64 n145) ∧
 ∃ (n146 : Int),
 w'128.cell? (Addr.mk b122 1 none) = some (Value.int IntKind.i64 n146) ∧
 R (Ending.returned (Value.bool (decide (IntKind.i64.wrap (IntKind.i64.wrap (n144 + n145) + n146) = 1)))) w'128) ∧
 (b9 = false → R (Ending.returned (Value.bool false)) w'128)))

set_option maxRecDepth 100000 in
theorem lawOrders_eq (cols_p : Option Addr) (cols_n : Nat) (cols_c : Nat) (row_p : Option Addr) (row_n : Nat) (row_c : Nat) (a0 : Int) (a1 : ByteArray) (a2 : Int) (a3 : Int) (a4 : ByteArray) (a5_p : Option Addr) (a5_n : Nat) (a5_c : Nat) (b0 : Int) (b1 : ByteArray) (b2 : Int) (b3 : Int) (b4 : ByteArray) (b5_p : Option Addr) (b5_n : Nat) (b5_c : Nat) (w : World) (R : Ending → World → Prop) : lawOrders_T cols_p cols_n cols_c row_p row_n row_c a0 a1 a2 a3 a4 a5_p a5_n a5_c b0 b1 b2 b3 b4 b5_p b5_n b5_c w R = vcFn Tryd.prog [] [] Tryd.f10 [Value.slice cols_p cols_n cols_c, Value.slice row_p row_n row_c, Value.agg
 #[Value.int IntKind.i64 a0, Value.string a1, Value.int IntKind.i64 a2, Value.int IntKind.i64 a3, Value.string a4,
 Value.slice a5_p a5_n a5_c], Value.agg
 #[Value.int IntKind.i64 b0, Value.string b1, Value.int IntKind.i64 b2, Value.int IntKind.i64 b3, Value.string b4,
 Value.slice b5_p b5_n b5_c]] w R := by kernel_rfl

set_option maxRecDepth 100000 in
theorem lawOrders_vc (cols_p : Option Addr) (cols_n : Nat) (cols_c : Nat) (row_p : Option Addr) (row_n : Nat) (row_c : Nat) (a0 : Int) (a1 : ByteArray) (a2 : Int) (a3 : Int) (a4 : ByteArray) (a5_p : Option Addr) (a5_n : Nat) (a5_c : Nat) (b0 : Int) (b1 : ByteArray) (b2 : Int) (b3 : Int) (b4 : ByteArray) (b5_p : Option Addr) (b5_n : Nat) (b5_c : Nat) (w : World) (R : Ending → World → Prop) (h : lawOrders_T cols_p cols_n cols_c row_p row_n row_c a0 a1 a2 a3 a4 a5_p a5_n a5_c b0 b1 b2 b3 b4 b5_p b5_n b5_c w R) : Calls Tryd.prog 10 #[Value.slice cols_p cols_n cols_c, Value.slice row_p row_n row_c, Value.agg
 #[Value.int IntKind.i64 a0, Value.string a1, Value.int IntKind.i64 a2, Value.int IntKind.i64 a3, Value.string a4,
 Value.slice a5_p a5_n a5_c], Value.agg
 #[Value.int IntKind.i64 b0, Value.string b1, Value.int IntKind.i64 b2, Value.int IntKind.i64 b3, Value.string b4,
 Value.slice b5_p b5_n b5_c]] w R :=
  calls_of_vc (args := [Value.slice cols_p cols_n cols_c, Value.slice row_p row_n row_c, Value.agg
 #[Value.int IntKind.i64 a0, Value.string a1, Value.int IntKind.i64 a2, Value.int IntKind.i64 a3, Value.string a4,
 Value.slice a5_p a5_n a5_c], Value.agg
 #[Value.int IntKind.i64 b0, Value.string b1, Value.int IntKind.i64 b2, Value.int IntKind.i64 b3, Value.string b4,
 Value.slice b5_p b5_n b5_c]]) [] [] Tryd.mixed Tryd.func10 (cast (lawOrders_eq _ _ _ _ _ _ _ _ _ _ _ _ _ _ _ _ _ _ _ _ _ _ w R) h)


end Go.Proofs.YtdephmdfdgclpaaDoor

/- The contracts of the laws' own helpers: nodes that are built. -/
namespace Go.Proofs.YtdephmdfdgclpaaDoor
open Go Go.Vc Go.RowKit

/-- Six cells are written into a variable and read out of it. -/
theorem Hold.ret6 {w0 W : World} {fs : List (Nat × Obj)} {ms : List Row} {b : Nat} {t : TypeId} {x0 x1 x2 x3 x4 x5 : Value} {X : Int → ByteArray → Int → Int → ByteArray → Option Addr → Nat → Nat → World → Prop} (H : Hold w0 W fs ms) (i : Nat) (hi : fs[i]? = some (b, .cells #[x0, x1, x2, x3, x4, x5] t (0, 0)))
    (k0 : Int) (k1 : ByteArray) (k2 k3 : Int) (k4 : ByteArray) (p : Option Addr) (n c : Nat)
    (hX : ∀ W', Ext w0 W' → (∀ b', b' ≠ b → b' < W.heap.size → W'.heap[b']? = W.heap[b']?) → X k0 k1 k2 k3 k4 p n c W') : (∃ u, W.cell? ⟨b, 0, none⟩ = some u) ∧ W.frozen? ⟨b, 0, none⟩ = false ∧ (∃ u, W.cell? ⟨b, 1, none⟩ = some u) ∧ W.frozen? ⟨b, 1, none⟩ = false ∧ (∃ u, W.cell? ⟨b, 2, none⟩ = some u) ∧ W.frozen? ⟨b, 2, none⟩ = false ∧
    (∃ u, W.cell? ⟨b, 3, none⟩ = some u) ∧ W.frozen? ⟨b, 3, none⟩ = false ∧ (∃ u, W.cell? ⟨b, 4, none⟩ = some u) ∧ W.frozen? ⟨b, 4, none⟩ = false ∧ (∃ u, W.cell? ⟨b, 5, none⟩ = some u) ∧ W.frozen? ⟨b, 5, none⟩ = false ∧
    ∀ W' : World, Put W b 0 [.int .i64 k0, .string k1, .int .i64 k2, .int .i64 k3, .string k4, .slice p n c] W' → ∃ y0 : Int, W'.cell? ⟨b, 0, none⟩ = some (.int .i64 y0) ∧ ∃ y1 : ByteArray, W'.cell? ⟨b, 1, none⟩ = some (.string y1) ∧ ∃ y2 : Int, W'.cell? ⟨b, 2, none⟩ = some (.int .i64 y2) ∧
      ∃ y3 : Int, W'.cell? ⟨b, 3, none⟩ = some (.int .i64 y3) ∧ ∃ y4 : ByteArray, W'.cell? ⟨b, 4, none⟩ = some (.string y4) ∧ ∃ (q : Option Addr) (m d : Nat), W'.cell? ⟨b, 5, none⟩ = some (.slice q m d) ∧ X y0 y1 y2 y3 y4 q m d W' := by
  have B := H.blk i hi
  refine B.w6 fun W' h => ?_
  have H' := H.put i hi h
  have B' : Blk W' b t #[.int .i64 k0, .string k1, .int .i64 k2, .int .i64 k3, .string k4, .slice p n c] := B.put h
  obtain ⟨a0, a1, a2, a3, a4, a5⟩ := B'.c6
  exact ⟨_, a0, _, a1, _, a2, _, a3, _, a4, _, _, _, a5, hX W' H'.ext fun b' hb hlt => h.but.block b' hlt hb⟩

def numE (n : Int) : Ex := .mk 2 ⟨#[]⟩ (numV n) []
def oneE (op : Int) (a : Ex) : Ex := .mk op ⟨#[]⟩ nullV [a]
def twoE (op : Int) (a b : Ex) : Ex := .mk op ⟨#[]⟩ nullV [a, b]
theorem ExAt.len {w : World} {x : Ex} {cs : List Value} (h : ExAt w x cs) : cs.length = 6 := by obtain ⟨p, n, c, rfl, _⟩ := h.six; rfl
theorem lnum_ok (n : Int) (w : World) : Calls Tryd.prog 25 #[.int .i64 n] w fun e w' => ∃ cs, e = .returned (.agg cs.toArray) ∧ ExAt w' (numE n) cs ∧ Ext w w' := by
  apply lnum_vc
  unfold lnum_T
  intro b1 w2 h1
  have H := (Hold.start (Ext.rfl (w := w))).new h1
  refine Hold.ret6 H 0 rfl _ _ _ _ _ _ _ _ fun W' hx _ => ⟨[.int .i64 2, .string ⟨#[]⟩, .int .i64 1, .int .i64 n, .string ⟨#[]⟩, .slice none 0 0], rfl, ?_, hx⟩
  unfold numE ExAt
  exact ⟨none, 0, 0, [], rfl, ⟨Nat.le_refl _, Nat.zero_le _⟩, fun _ => ⟨rfl, rfl⟩, rfl, by simp, .inl rfl, by unfold ExsAt; trivial⟩
theorem ltwo_ok (op : Int) {a b : Ex} {w : World} {ca cb : List Value} (ha : ExAt w a ca) (hb : ExAt w b cb) : Calls Tryd.prog 24 #[.int .i64 op, .agg ca.toArray, .agg cb.toArray] w fun e w' => ∃ cs, e = .returned (.agg cs.toArray) ∧ ExAt w' (twoE op a b) cs ∧ Ext w w' := by
  obtain ⟨pa, na, cca, rfl, _⟩ := ha.six
  obtain ⟨pb, nb, ccb, rfl, _⟩ := hb.six
  apply ltwo_vc
  unfold ltwo_T
  intro b1 w2 h1 b4 w5 h4 b7 w8 h7
  have H8 := (((Hold.start (Ext.rfl (w := w))).new h1).new h4).new h7
  have Ba : Blk w8 b1 29 #[.int .i64 a.op, .string a.name, .int .i64 a.v.k, .int .i64 a.v.n, .string a.v.s, .slice pa na cca] := H8.blk 2 rfl
  have Bb : Blk w8 b4 29 #[.int .i64 b.op, .string b.name, .int .i64 b.v.k, .int .i64 b.v.n, .string b.v.s, .slice pb nb ccb] := H8.blk 1 rfl
  obtain ⟨a0, a1, a2, a3, a4, a5⟩ := Ba.c6
  obtain ⟨b0, b1', b2, b3, b4', b5⟩ := Bb.c6
  refine ⟨_, a0, _, a1, _, a2, _, a3, _, a4, _, _, _, a5, _, b0, _, b1', _, b2, _, b3, _, b4', _, _, _, b5, fun b26 w27 h26 => ?_⟩
  have H27 := H8.new h26
  refine Hold.ret6 H27 1 rfl _ _ _ _ _ _ _ _ fun W' hx hk => ⟨[.int .i64 op, .string ⟨#[]⟩, .int .i64 0, .int .i64 0, .string ⟨#[]⟩, .slice (some ⟨b26, 0, none⟩) 2 2], rfl, ?_, hx⟩
  have hne : b26 ≠ b7 := H27.keys 0 1 _ _ rfl rfl (by decide)
  have hB : Blk W' b26 29 _ := (hk b26 hne (H27.lt 0 rfl)).trans (H27.blk 0 rfl)
  unfold twoE ExAt
  refine ⟨some ⟨b26, 0, none⟩, 2, 2, [[.int .i64 a.op, .string a.name, .int .i64 a.v.k, .int .i64 a.v.n, .string a.v.s, .slice pa na cca], [.int .i64 b.op, .string b.name, .int .i64 b.v.k, .int .i64 b.v.n, .string b.v.s, .slice pb nb ccb]], rfl, ⟨Nat.le_refl _, by decide⟩, fun h => (by cases h), rfl, ?_, hB.at, ?_⟩
  · intro x hx
    simp only [List.mem_cons, List.not_mem_nil, or_false] at hx
    rcases hx with rfl | rfl <;> rfl
  · unfold ExsAt
    refine ⟨ha.ext hx, ?_⟩
    unfold ExsAt
    exact ⟨hb.ext hx, by unfold ExsAt; trivial⟩
theorem lone_ok (op : Int) {a : Ex} {w : World} {ca : List Value} (ha : ExAt w a ca) : Calls Tryd.prog 23 #[.int .i64 op, .agg ca.toArray] w fun e w' => ∃ cs, e = .returned (.agg cs.toArray) ∧ ExAt w' (oneE op a) cs ∧ Ext w w' := by
  obtain ⟨pa, na, cca, rfl, _⟩ := ha.six
  apply lone_vc
  unfold lone_T
  intro b1 w2 h1 b7 w8 h7
  have H8 := ((Hold.start (Ext.rfl (w := w))).new h1).new h7
  have Ba : Blk w8 b1 29 #[.int .i64 a.op, .string a.name, .int .i64 a.v.k, .int .i64 a.v.n, .string a.v.s, .slice pa na cca] := H8.blk 1 rfl
  obtain ⟨a0, a1, a2, a3, a4, a5⟩ := Ba.c6
  refine ⟨_, a0, _, a1, _, a2, _, a3, _, a4, _, _, _, a5, fun b26 w27 h26 => ?_⟩
  have H27 := H8.new h26
  refine Hold.ret6 H27 1 rfl _ _ _ _ _ _ _ _ fun W' hx hk => ⟨[.int .i64 op, .string ⟨#[]⟩, .int .i64 0, .int .i64 0, .string ⟨#[]⟩, .slice (some ⟨b26, 0, none⟩) 1 1], rfl, ?_, hx⟩
  have hne : b26 ≠ b7 := H27.keys 0 1 _ _ rfl rfl (by decide)
  have hB : Blk W' b26 29 _ := (hk b26 hne (H27.lt 0 rfl)).trans (H27.blk 0 rfl)
  unfold oneE ExAt
  refine ⟨some ⟨b26, 0, none⟩, 1, 1, [[.int .i64 a.op, .string a.name, .int .i64 a.v.k, .int .i64 a.v.n, .string a.v.s, .slice pa na cca]], rfl, ⟨Nat.le_refl _, by decide⟩, fun h => (by cases h), rfl, ?_, hB.at, ?_⟩
  · intro x hx
    simp only [List.mem_cons, List.not_mem_nil, or_false] at hx
    subst hx; rfl
  · unfold ExsAt
    exact ⟨ha.ext hx, by unfold ExsAt; trivial⟩
end Go.Proofs.YtdephmdfdgclpaaDoor

/- The contracts of the laws of package expr. -/
namespace Go.Proofs.YtdephmdfdgclpaaDoor
open Go Go.Vc Go.RowKit

def shownC : List Col := [⟨⟨#[98]⟩, 1, false⟩]
def shownR : List Val := [numV 3]
def shownX : Ex := twoE 3 (twoE 5 (.mk 1 ⟨#[98]⟩ nullV []) (numE 2)) (numE 1)
theorem shown_val : evalF shownC shownR shownX = (numV 7, 0) := by decide +kernel
theorem shown_ok {w : World} (hT : Tab w) (hT2 : Tab2 w) : Calls Tryd.prog 11 #[] w fun e w' => e = .returned (.bool true) ∧ Ext w w' := by
  apply shown_vc
  unfold shown_T
  intro b1 w2 h1 b4 w5 h4
  have H5 := ((Hold.start (Ext.rfl (w := w))).new h1).new h4
  refine (lnum_ok 2 w5).mono ?_
  rintro e w8 ⟨c2, rfl, x2, e8⟩
  have hb : ExAt w8 (.mk 1 ⟨#[98]⟩ nullV []) [.int .i64 1, .string ⟨#[98]⟩, .int .i64 0, .int .i64 0, .string ⟨#[]⟩, .slice none 0 0] := by
    unfold ExAt
    exact ⟨none, 0, 0, [], rfl, ⟨Nat.le_refl _, Nat.zero_le _⟩, fun _ => ⟨rfl, rfl⟩, rfl, by simp, .inl rfl, by unfold ExsAt; trivial⟩
  obtain ⟨p2, n2, d2, rfl, _⟩ := x2.six
  refine ⟨_, _, _, _, _, _, _, _, rfl, (ltwo_ok 5 hb x2).mono ?_⟩
  rintro e w18 ⟨c3, rfl, x3, e18⟩
  obtain ⟨p3, n3, d3, rfl, _⟩ := x3.six
  refine ⟨_, _, _, _, _, _, _, _, rfl, (lnum_ok 1 w18).mono ?_⟩
  rintro e w28 ⟨c4, rfl, x4, e28⟩
  obtain ⟨p4, n4, d4, rfl, _⟩ := x4.six
  refine ⟨_, _, _, _, _, _, _, _, rfl, (ltwo_ok 3 (x3.ext e28) x4).mono ?_⟩
  rintro e w38 ⟨c5, rfl, x5, e38⟩
  obtain ⟨p5, n5, d5, rfl, _⟩ := x5.six
  have H38 := (((H5.step e8).step e18).step e28).step e38
  have hc : Cols w38 (some ⟨b1, 0, none⟩) 1 1 shownC := ⟨rfl, ⟨Nat.le_refl _, by decide⟩, (H38.blk 1 rfl).at, fun h => by cases h⟩
  have hr : Vs w38 (some ⟨b4, 0, none⟩) 1 1 shownR := ⟨rfl, ⟨Nat.le_refl _, by decide⟩, (H38.blk 0 rfl).at, fun h => by cases h⟩
  refine ⟨_, _, _, _, _, _, _, _, rfl, (xEval_ok shownX (hT.ext H38.ext) (hT2.ext H38.ext) hc hr x5 (by decide) (by decide)).mono ?_⟩
  rintro e w48 ⟨rfl, e48⟩
  rw [shown_val]
  have H48 := H38.step e48
  refine ⟨_, _, _, _, rfl, fun b53 w54 h53 => ?_⟩
  have H54 := H48.new h53
  obtain ⟨q0, q1, q2⟩ := (H54.blk 0 rfl).c3
  refine ⟨⟨_, q0⟩, (H54.blk 0 rfl).frozen _, ⟨_, q1⟩, (H54.blk 0 rfl).frozen _, ⟨_, q2⟩, (H54.blk 0 rfl).frozen _, fun w59 h59 => ?_⟩
  have H59 := H54.put 0 rfl h59
  have B : Blk w59 b53 26 #[.int .i64 1, .int .i64 7, .string ⟨#[]⟩] := H59.blk 0 rfl
  obtain ⟨q0, q1, q2⟩ := B.c3
  refine ⟨fun _ => ⟨_, q0, _, q1, _, q2, ?_, H59.ext⟩, fun h => absurd rfl h⟩
  rw [sEq_self]; rfl

theorem lawTypes_ok (x : Ex) {w : World} {p : Option Addr} {n c : Nat} {cols : List Col} {cs : List Value} (hT : Tab w) (hT2 : Tab2 w) (hc : Cols w p n c cols) (hs : ∀ y ∈ cols, y.name.size ≤ 9223372036854775807) (hx : ExAt w x cs) :
    Calls Tryd.prog 5 #[.slice p n c, .agg cs.toArray] w fun e w' => e = .returned (.bool true) ∧ Ext w w' := by
  obtain ⟨xp, xn, xc, hcs, _⟩ := hx.six
  subst hcs
  apply lawTypes_vc
  unfold lawTypes_T
  intro b1 w2 h1
  have H2 := (Hold.start (Ext.rfl (w := w))).new h1
  refine (shown_ok (hT.ext H2.ext) (hT2.ext H2.ext)).mono ?_
  rintro e w5 ⟨rfl, e5⟩
  have H5 := H2.step e5
  have B1 : Blk w5 b1 29 #[.int .i64 x.op, .string x.name, .int .i64 x.v.k, .int .i64 x.v.n, .string x.v.s, .slice xp xn xc] := H5.blk 0 rfl
  obtain ⟨a0, a1, a2, a3, a4, a5⟩ := B1.c6
  refine ⟨_, rfl, _, a0, _, a1, _, a2, _, a3, _, a4, _, _, _, a5, (xtype_ok x (hT.ext H5.ext) (hc.ext H5.ext) (hx.ext H5.ext)).mono ?_⟩
  rintro e w16 ⟨rfl, e16⟩
  have H16 := H5.step e16
  refine ⟨_, _, rfl, _, cell_ext a0 e16, _, cell_ext a1 e16, _, cell_ext a2 e16, _, cell_ext a3 e16, _, cell_ext a4 e16, _, _, _, cell_ext a5 e16, (rtype_ok x (hc.ext H16.ext) hs (hx.ext H16.ext)).mono ?_⟩
  rintro e w28 ⟨rfl, e28⟩
  exact ⟨_, _, rfl, by simp, (H16.step e28).ext⟩

theorem lawEvals_ok (x : Ex) {w : World} {p rp : Option Addr} {n c rn rc : Nat} {cols : List Col} {row : List Val} {cs : List Value} (hT : Tab w) (hT2 : Tab2 w) (hc : Cols w p n c cols) (hs : ∀ y ∈ cols, y.name.size ≤ 9223372036854775807) (hr : Vs w rp rn rc row) (hx : ExAt w x cs)
    (hfit : ∀ u ∈ row, fitI u.n) (hxf : ∀ y ∈ nodesT x, fitI y.v.n) :
    Calls Tryd.prog 6 #[.slice p n c, .slice rp rn rc, .agg cs.toArray] w fun e w' => e = .returned (.bool true) ∧ Ext w w' := by
  obtain ⟨xp, xn, xc, hcs, _⟩ := hx.six
  subst hcs
  apply lawEvals_vc
  unfold lawEvals_T
  intro b1 w2 h1
  have H2 := (Hold.start (Ext.rfl (w := w))).new h1
  refine (shown_ok (hT.ext H2.ext) (hT2.ext H2.ext)).mono ?_
  rintro e w5 ⟨rfl, e5⟩
  have H5 := H2.step e5
  have B1 : Blk w5 b1 29 #[.int .i64 x.op, .string x.name, .int .i64 x.v.k, .int .i64 x.v.n, .string x.v.s, .slice xp xn xc] := H5.blk 0 rfl
  obtain ⟨a0, a1, a2, a3, a4, a5⟩ := B1.c6
  refine ⟨_, rfl, _, a0, _, a1, _, a2, _, a3, _, a4, _, _, _, a5, (xEval_ok x (hT.ext H5.ext) (hT2.ext H5.ext) (hc.ext H5.ext) (hr.ext H5.ext) (hx.ext H5.ext) hfit hxf).mono ?_⟩
  rintro e w16 ⟨rfl, e16⟩
  refine ⟨_, _, _, _, rfl, fun b21 w22 h21 => ?_⟩
  have H22 := (H5.step e16).new h21
  obtain ⟨q0, q1, q2⟩ := (H22.blk 0 rfl).c3
  refine ⟨⟨_, q0⟩, (H22.blk 0 rfl).frozen _, ⟨_, q1⟩, (H22.blk 0 rfl).frozen _, ⟨_, q2⟩, (H22.blk 0 rfl).frozen _, fun w27 h27 => ?_⟩
  have H27 := H22.put 0 rfl h27
  have B1 : Blk w27 b1 29 #[.int .i64 x.op, .string x.name, .int .i64 x.v.k, .int .i64 x.v.n, .string x.v.s, .slice xp xn xc] := H27.blk 1 rfl
  obtain ⟨a0, a1, a2, a3, a4, a5⟩ := B1.c6
  refine ⟨_, a0, _, a1, _, a2, _, a3, _, a4, _, _, _, a5, (reval_ok x (hc.ext H27.ext) hs (hr.ext H27.ext) (hx.ext H27.ext) hfit hxf).mono ?_⟩
  rintro e w38 ⟨rfl, e38⟩
  refine ⟨_, _, _, _, rfl, fun b43 w44 h43 => ?_⟩
  have H44 := (H27.step e38).new h43
  obtain ⟨q0, q1, q2⟩ := (H44.blk 0 rfl).c3
  refine ⟨⟨_, q0⟩, (H44.blk 0 rfl).frozen _, ⟨_, q1⟩, (H44.blk 0 rfl).frozen _, ⟨_, q2⟩, (H44.blk 0 rfl).frozen _, fun w49 h49 => ?_⟩
  have H49 := H44.put 0 rfl h49
  have Bb : Blk w49 b43 26 #[.int .i64 (evalF cols row x).1.k, .int .i64 (evalF cols row x).1.n, .string (evalF cols row x).1.s] := H49.blk 0 rfl
  have Ba : Blk w49 b21 26 #[.int .i64 (evalF cols row x).1.k, .int .i64 (evalF cols row x).1.n, .string (evalF cols row x).1.s] := H49.blk 1 rfl
  obtain ⟨p0, p1, p2⟩ := Ba.c3
  obtain ⟨q0, q1, q2⟩ := Bb.c3
  refine ⟨fun _ => ⟨_, p0, _, p1, _, p2, _, q0, _, q1, _, q2, ?_, H49.ext⟩, fun h => by cases h⟩
  rw [sEq_self]; simp
end Go.Proofs.YtdephmdfdgclpaaDoor

/- Tables of tables: what a row's list says of their cells. -/
namespace Go.Vc
open Go

theorem cells_of_arr {H α : Type} {enc : TypeId × Value → H} {P : Program} {w : World} {base : Nat} {sp : Nat → Bool} {held : Bool} {fuel : Nat} {t e : TypeId} {n s : Nat} {cs : List Value} {zs : List α} {p : List MemPlace} {D : α → DataW H} {C : α → List Value}
    (ht : P.underlying t = some (.array n e)) (hce : P.cellsOf e = s) (hct : P.cellsOf t = n * s) (hs : ∀ z, (C z).length = s) (h0 : 0 < s)
    (inner : ∀ fuel cs z p, cs.length = s → DataW.trod enc P w base sp held fuel e cs = some (D z, p) → cs = C z)
    (h : DataW.trod enc P w base sp held fuel t cs = some (.agg (zs.map D), p)) : cs = zs.flatMap C := by
  cases fuel with
  | zero => simp [DataW.trod] at h
  | succ fuel =>
    simp only [DataW.trod, ht, hce, hct] at h
    split at h
    · rename_i hl
      obtain ⟨xs, hm, hx⟩ := Option.map_eq_some_iff.1 h
      have hxs : xs.map (·.1) = zs.map D := by
        have := congrArg Prod.fst hx
        simpa using this
      have hxl : xs.length = n := by simpa using Lib.mapM_length hm
      have hzl : zs.length = n := by
        have := congrArg List.length hxs
        simp at this
        omega
      have key : ∀ i, i < n → ∃ z, zs[i]? = some z ∧ (cs.drop (i * s)).take s = C z := by
        intro i hi
        obtain ⟨b, hb, hf⟩ := Lib.mapM_at hm i i (by simp [hi])
        have h2 : (xs.map (·.1))[i]? = some b.1 := by simp [hb]
        rw [hxs, List.getElem?_map] at h2
        obtain ⟨z, hz, he⟩ := Option.map_eq_some_iff.1 h2
        refine ⟨z, hz, inner fuel _ z b.2 ?_ ?_⟩
        · have hmul : (i + 1) * s ≤ n * s := Nat.mul_le_mul_right _ (by omega)
          have e1 : (i + 1) * s = i * s + s := Nat.succ_mul i s
          simp only [List.length_take, List.length_drop]
          omega
        · rw [hf, he]
      -- both lists, piece by piece
      have go : ∀ (m : Nat) (zs : List α) (cs : List Value), zs.length = m → cs.length = m * s → (∀ i, i < m → ∃ z, zs[i]? = some z ∧ (cs.drop (i * s)).take s = C z) → cs = zs.flatMap C := by
        intro m
        induction m with
        | zero =>
          intro zs cs hz hc _
          rw [List.length_eq_zero_iff] at hz
          rw [Nat.zero_mul, List.length_eq_zero_iff] at hc
          rw [hz, hc]; rfl
        | succ m ih =>
          intro zs cs hz hc hk
          match zs, hz with
          | z :: r, hz =>
            have hcm : (m + 1) * s = m * s + s := Nat.succ_mul m s
            obtain ⟨z', hz', h1⟩ := hk 0 (by omega)
            cases hz'
            rw [Nat.zero_mul, List.drop_zero] at h1
            have := ih r (cs.drop s) (by simpa using hz) (by rw [List.length_drop]; omega) (fun i hi => by
              obtain ⟨y, hy, h2⟩ := hk (i + 1) (by omega)
              refine ⟨y, by simpa using hy, ?_⟩
              rw [List.drop_drop, ← h2]
              congr 2
              rw [Nat.succ_mul]; omega)
            rw [List.flatMap_cons, ← h1, ← this, List.take_append_drop]
      exact go n zs cs hzl (by simpa using hl) key
    · cases h
end Go.Vc

/- A row's list of tables, looked up by name; rows of three numbers. -/
namespace Go.Vc
open Go

theorem laid_get {P : Program} {w : World} : ∀ {laid : List (String × DataW Unit)} {ps : List MemPlace}, DataW.LaidVars P w laid ps → ∀ {n : String} {d : DataW Unit}, (n, d) ∈ laid →
    ∃ g t cs fuel p, P.globalNamed n = some g ∧ (P.globals[g]?).map (·.type) = some t ∧ w.var? P n = some cs ∧ DataW.trod (fun _ => ()) P w 0 (fun _ => true) false fuel t cs.toList = some (d, p)
  | [], _, _, n, d, hm => by cases hm
  | (m, e) :: r, ps, h, n, d, hm => by
    obtain ⟨g, t, cs, fuel, p, q, h1, h2, h3, h4, h5, _⟩ := h
    rcases List.mem_cons.1 hm with hm | hm
    · cases hm; exact ⟨g, t, cs, fuel, p, h1, h2, h3, h4⟩
    · exact laid_get h5 hm
theorem trod_three {H : Type} {enc : TypeId × Value → H} {P : Program} {w : World} {base : Nat} {sp : Nat → Bool} {held : Bool} {fuel : Nat} {e ti : TypeId} {k : IntKind} {cs : List Value} {a b c : Int} {p : List MemPlace}
    (hu : structOf P e = some [(ti, 0), (ti, 1), (ti, 2)]) (hi : P.underlying ti = some (.int k)) (h1 : P.cellsOf ti = 1) (hl : cs.length = 3)
    (h : DataW.trod enc P w base sp held fuel e cs = some (.agg [.lit (.int k a), .lit (.int k b), .lit (.int k c)], p)) : cs = [.int k a, .int k b, .int k c] := by
  cases fuel with
  | zero => simp [DataW.trod] at h
  | succ fuel =>
    unfold structOf at hu
    split at hu
    · rename_i fs hfs
      simp only [DataW.trod, hfs] at h
      split at h
      · cases hm : fs.toList.mapM fun f => DataW.trod enc P w base sp held fuel f.type ((cs.drop f.offset).take (P.cellsOf f.type)) with
        | none => rw [hm] at h; cases h
        | some xs =>
          rw [hm] at h
          simp only [Option.map_some, Option.some.injEq, Prod.mk.injEq] at h hu
          obtain ⟨hx, _⟩ := h
          replace hx : xs.map (·.1) = [.lit (.int k a), .lit (.int k b), .lit (.int k c)] := by first | exact hx | (injection hx)
          have hlen : fs.toList.length = 3 := by have := congrArg List.length hu; simpa using this
          have key : ∀ (i : Nat) (z : Int), i < 3 → (xs.map (·.1))[i]? = some (.lit (.int k z)) → cs[i]? = some (.int k z) := by
            intro i z hi3 hz
            have hf : fs.toList[i]? = some (fs.toList[i]'(by omega)) := List.getElem?_eq_getElem _
            generalize fs.toList[i]'(by omega) = f at hf
            obtain ⟨y, hy, hfy⟩ := Lib.mapM_at hm i f hf
            have hto : f.type = ti ∧ f.offset = i := by
              have := congrArg (·[i]?) hu
              simp only [List.getElem?_map, hf, Option.map_some] at this
              rcases (by omega : i = 0 ∨ i = 1 ∨ i = 2) with rfl | rfl | rfl <;> simpa using this
            rw [hto.1, hto.2, h1] at hfy
            obtain ⟨z', hc, rfl, _⟩ := DataW.trod_int hi hfy
            simp only [List.getElem?_map, hy, Option.map_some, Option.some.injEq, DataW.lit.injEq, Lit.int.injEq, true_and] at hz
            subst hz
            have := congrArg (·[0]?) hc
            simpa [List.getElem?_take, List.getElem?_drop] using this
          have c0 := key 0 a (by decide) (by rw [hx]; rfl)
          have c1 := key 1 b (by decide) (by rw [hx]; rfl)
          have c2 := key 2 c (by decide) (by rw [hx]; rfl)
          obtain ⟨x, y, z, rfl⟩ : ∃ x y z, cs = [x, y, z] := by
            match cs, hl with
            | [x, y, z], _ => exact ⟨x, y, z, rfl⟩
          cases c0
          cases c1
          cases c2
          rfl
      · cases h
    · cases hu
end Go.Vc

/- The tables of package expr, out of a row's list. -/
namespace Go.Proofs.YtdephmdfdgclpaaDoor
open Go Go.Vc Go.RowKit

theorem kind3 : structOf Tryd.prog 64 = some [(3, 0), (3, 1), (3, 2)] := by kernel_rfl
theorem shapes_eq : shapesA = ((List.range 17).flatMap shapeC).toArray := rfl
def shapeD (i : Nat) : DataW Unit := .agg [.lit (.int .i64 (manyOf i)), .lit (.int .i64 (wantOf i)), .lit (.int .i64 (kindOf i))]
theorem laid_shapes : Rows.laid_stackyard_expr_shapes (H := Unit) = .agg ((List.range 17).map shapeD) := by kernel_rfl
def rowsD (l : List (List Int)) : DataW Unit := .agg (l.map (Lib.tabData .i64))
theorem laid_ands : Rows.laid_stackyard_expr_ands (H := Unit) = rowsD [[0, 0, 0], [0, 1, 2], [0, 2, 2]] := by kernel_rfl
theorem laid_ors : Rows.laid_stackyard_expr_ors (H := Unit) = rowsD [[0, 1, 2], [1, 1, 1], [2, 1, 2]] := by kernel_rfl
theorem u65 : Tryd.prog.underlying 65 = some (.array 17 64) := by kernel_rfl
theorem u104 : Tryd.prog.underlying 104 = some (.array 3 103) := by kernel_rfl
theorem u103 : Tryd.prog.underlying 103 = some (.array 3 3) := by kernel_rfl
theorem uInt : Tryd.prog.underlying 3 = some (.int .i64) := by kernel_rfl
theorem cInt : Tryd.prog.cellsOf 3 = 1 := by kernel_rfl
theorem rows_cells {W : World} {fuel : Nat} {cs : List Value} {l : List (List Int)} {p : List MemPlace} (hl : ∀ r ∈ l, r.length = 3) (h : DataW.trod (fun _ => ()) Tryd.prog W 0 (fun _ => true) false fuel 104 cs = some (rowsD l, p)) :
    cs = l.flatMap fun r => (r ++ [0, 0, 0]).take 3 |>.map fun z => Value.int .i64 z := by
  have e : l.map (Lib.tabData (H := Unit) .i64) = l.map fun r => Lib.tabData .i64 ((r ++ [0, 0, 0]).take 3) := by
    apply List.map_congr_left
    intro r hr
    rw [List.take_append_of_le_length (by rw [hl r hr]; decide), List.take_of_length_le (by rw [hl r hr]; decide)]
  unfold rowsD at h
  rw [e] at h
  exact cells_of_arr (C := fun r => ((r ++ [0, 0, 0]).take 3).map fun z => Value.int .i64 z) (s := 3) u104 (by kernel_rfl) (by kernel_rfl) (fun z => by simp) (by decide)
    (fun fuel cs z p _ h => Lib.cells_of_tab u103 uInt cInt (by kernel_rfl) h) h
theorem tabs_of {W : World} (h : laidMetH Tryd.prog Rows.exprTypesRow.laid W) : Tab W ∧ Tab2 W := by
  have h' : laidMet Tryd.prog Rows.exprTypesRow.laid W := h
  obtain ⟨ps, hl, _⟩ := h'
  refine ⟨?_, ?_, ?_⟩
  · obtain ⟨g, t, cs, fuel, p, hg, ht, hv, hd⟩ := laid_get hl (n := "stackyard/expr.shapes") (d := Rows.laid_stackyard_expr_shapes) (by simp [Rows.exprTypesRow])
    obtain rfl : g = 0 := Option.some.inj (hg.symm.trans (by kernel_rfl))
    obtain rfl : t = 65 := Option.some.inj (ht.symm.trans (by kernel_rfl))
    rw [laid_shapes] at hd
    have hc := cells_of_arr (C := shapeC) (s := 3) u65 (by kernel_rfl) (by kernel_rfl) (fun _ => rfl) (by decide) (fun fuel cs z p hl h => trod_three kind3 uInt cInt hl h) hd
    have hcs : cs = shapesA := by apply Array.ext'; rw [hc]; rfl
    intro k v hk
    rw [World.var?_cell hg hv, hcs, Nat.zero_add]; exact hk
  · obtain ⟨g, t, cs, fuel, p, hg, ht, hv, hd⟩ := laid_get hl (n := "stackyard/expr.ands") (d := Rows.laid_stackyard_expr_ands) (by simp [Rows.exprTypesRow])
    obtain rfl : g = 1 := Option.some.inj (hg.symm.trans (by kernel_rfl))
    obtain rfl : t = 104 := Option.some.inj (ht.symm.trans (by kernel_rfl))
    rw [laid_ands] at hd
    have hc := rows_cells (by decide) hd
    have hcs : cs = tabA andI := by apply Array.ext'; rw [hc]; rfl
    intro k v hk
    rw [World.var?_cell hg hv, hcs, Nat.zero_add]; exact hk
  · obtain ⟨g, t, cs, fuel, p, hg, ht, hv, hd⟩ := laid_get hl (n := "stackyard/expr.ors") (d := Rows.laid_stackyard_expr_ors) (by simp [Rows.exprTypesRow])
    obtain rfl : g = 2 := Option.some.inj (hg.symm.trans (by kernel_rfl))
    obtain rfl : t = 104 := Option.some.inj (ht.symm.trans (by kernel_rfl))
    rw [laid_ors] at hd
    have hc := rows_cells (by decide) hd
    have hcs : cs = tabA orJ := by apply Array.ext'; rw [hc]; rfl
    intro k v hk
    rw [World.var?_cell hg hv, hcs, Nat.zero_add]; exact hk
end Go.Proofs.YtdephmdfdgclpaaDoor

/- An argument that is an expression, opened. -/
namespace Go.Vc
open Go Go.RowKit

theorem ArgF.fields {n : Nat} {P : Program} {w : World} {t : TypeId} {cs : List Value} {l : List (TypeId × Nat)} (hu : structOf P t = some l) (h : ArgF (n + 1) P w t cs) :
    cs.length = P.cellsOf t ∧ ∀ x ∈ l, ArgF n P w x.1 ((cs.drop x.2).take (P.cellsOf x.1)) := by
  unfold structOf at hu
  split at hu
  · rename_i fs hfs
    cases hu
    obtain ⟨h1, h2⟩ := ArgF.struct hfs h
    refine ⟨h1, fun x hx => ?_⟩
    obtain ⟨f, hf, rfl⟩ := List.mem_map.1 hx
    exact h2 f hf
  · cases hu
theorem ExsAt.all {w : World} : ∀ (css : List (List Value)), (∀ c ∈ css, ∃ x, ExAt w x c ∧ ∀ y ∈ nodesT x, fitI y.v.n) → ∃ xs, ExsAt w xs css ∧ ∀ y ∈ nodesTs xs, fitI y.v.n
  | [], _ => ⟨[], by unfold ExsAt; trivial, fun y hy => by unfold nodesTs at hy; cases hy⟩
  | c :: r, h => by
    obtain ⟨x, h1, h2⟩ := h c (by simp)
    obtain ⟨xs, h3, h4⟩ := ExsAt.all r fun q hq => h q (by simp [hq])
    refine ⟨x :: xs, by unfold ExsAt; exact ⟨h1, h3⟩, fun y hy => ?_⟩
    unfold nodesTs at hy
    rcases List.mem_append.1 hy with hy | hy
    · exact h2 y hy
    · exact h4 y hy
theorem arg_ex {P : Program} {w : World} {t ti ts tv tk : TypeId} (hu : structOf P t = some [(ti, 0), (ts, 1), (tv, 2), (tk, 5)]) (hc : P.cellsOf t = 6) (h1 : P.cellsOf ti = 1) (h2 : P.cellsOf ts = 1) (h3 : P.cellsOf tv = 3) (h4 : P.cellsOf tk = 1)
    (u1 : P.underlying ti = some (.int .i64)) (u2 : P.underlying ts = some .string) (u4 : P.underlying tk = some (.slice t)) (hv : ∀ cs, Arg P w tv cs → ∃ v : Val, cs = v.cs ∧ v.fit) :
    ∀ (f : Nat) (cs : List Value), ArgF f P w t cs → ∃ x, ExAt w x cs ∧ ∀ y ∈ nodesT x, fitI y.v.n := by
  intro f
  induction f using Nat.strongRecOn with
  | ind f ih =>
  intro cs h
  obtain ⟨n, rfl⟩ := h.pos
  obtain ⟨hl, hf⟩ := h.fields hu
  rw [hc] at hl
  obtain ⟨a, b, c, d, e, g, rfl⟩ : ∃ a b c d e g, cs = [a, b, c, d, e, g] := by
    match cs, hl with
    | [a, b, c, d, e, g], _ => exact ⟨a, b, c, d, e, g, rfl⟩
  have f1 := hf (ti, 0) (by simp)
  have f2 := hf (ts, 1) (by simp)
  have f3 := hf (tv, 2) (by simp)
  have f4 := hf (tk, 5) (by simp)
  simp only [h1, h2, h3, h4] at f1 f2 f3 f4
  obtain ⟨op, e1, _⟩ := Arg.int u1 f1.arg
  obtain ⟨nm, e2, _⟩ := Arg.string u2 f2.arg
  obtain ⟨v, e3, hvf⟩ := hv _ f3.arg
  obtain ⟨m, rfl⟩ := f4.pos
  obtain ⟨p, k, cap, css, e4, hkc, hcm, _, hcl, hall, hat, hnil⟩ := ArgF.slice u4 (by omega) f4
  simp [Val.cs] at e1 e2 e3 e4
  obtain ⟨rfl, rfl, rfl⟩ := e3
  subst e1 e2 e4
  obtain ⟨xs, hxs, hxf⟩ := ExsAt.all (w := w) (css.take k) fun q hq => ih m (by omega) q (hall q (List.mem_of_mem_take hq)).2
  refine ⟨.mk op nm v xs, ?_, fun y hy => ?_⟩
  · unfold ExAt
    refine ⟨p, k, cap, css.take k, rfl, ⟨hkc, hcm⟩, hnil, by rw [List.length_take]; omega, fun q hq => by rw [(hall q (List.mem_of_mem_take hq)).1, hc], ?_, hxs⟩
    have hsplit : css.flatten = (css.take k).flatten ++ (css.drop k).flatten := by rw [← List.flatten_append, List.take_append_drop]
    have := hat.take ((css.take k).flatten.length)
    rw [hsplit, List.take_left] at this
    exact this
  · unfold nodesT at hy
    rcases List.mem_cons.1 hy with rfl | hy
    · exact hvf.2
    · exact hxf y hy
end Go.Vc

/- The walks of law10's statements, out of the arguments as they are handed in. -/
namespace Go.Proofs.YtdephmdfdgclpaaDoor
open Go Go.Vc Go.RowKit

theorem list3 {cs : List Value} (h : cs.length = 3) : ∃ a b d, cs = [a, b, d] := by
  match cs, h with
  | [a, b, d], _ => exact ⟨a, b, d, rfl⟩
theorem arg_value {w : World} {cs : List Value} (h : Arg Tryd.prog w 26 cs) : ∃ v : Val, cs = v.cs ∧ v.fit :=
  arg_val (ti := 3) (tn := 2) (ts := 9) (by kernel_rfl) (by kernel_rfl) (by kernel_rfl) (by kernel_rfl) (by kernel_rfl) (by kernel_rfl) (by kernel_rfl) (by kernel_rfl) h
theorem arg_col {w : World} {cs : List Value} (h : Arg Tryd.prog w 50 cs) : ∃ c : Col, cs = c.cs ∧ c.name.size ≤ 140737488351232 := by
  obtain ⟨hl, hf⟩ := Arg.fields (l := [(9, 0), (3, 1), (4, 2)]) (by kernel_rfl) h
  have h3 : Tryd.prog.cellsOf 50 = 3 := by kernel_rfl
  rw [h3] at hl
  obtain ⟨a, b, d, rfl⟩ := list3 hl
  have f1 := hf (9, 0) (by simp)
  have f2 := hf (3, 1) (by simp)
  have f3 := hf (4, 2) (by simp)
  have c1 : Tryd.prog.cellsOf 9 = 1 := by kernel_rfl
  have c2 : Tryd.prog.cellsOf 3 = 1 := by kernel_rfl
  have c3 : Tryd.prog.cellsOf 4 = 1 := by kernel_rfl
  simp only [c1, c2, c3] at f1 f2 f3
  obtain ⟨s, e1, hs⟩ := Arg.string (by kernel_rfl) f1
  obtain ⟨n, e2, _⟩ := Arg.int (k := .i64) (by kernel_rfl) f2
  obtain ⟨v, e3⟩ := Arg.bool (by kernel_rfl) f3
  simp at e1 e2 e3
  subst e1 e2 e3
  exact ⟨⟨s, n, v⟩, rfl, hs⟩
theorem arg_cols {w : World} {v : Value} (h : Arg Tryd.prog w 22 [v]) : ∃ p n c cols, v = .slice p n c ∧ Cols w p n c cols ∧ ∀ x ∈ cols, x.name.size ≤ 140737488351232 := by
  obtain ⟨p, n, c, l, e, h1, h2, _⟩ := arg_ls (e := 50) (enc := Col.cs) (Q := fun x => x.name.size ≤ 140737488351232) (by kernel_rfl) (by decide +kernel) (fun x hx => arg_col hx) (fun _ => by kernel_rfl) h
  exact ⟨p, n, c, l, e, h1, h2⟩
theorem arg_row {w : World} {v : Value} (h : Arg Tryd.prog w 24 [v]) : ∃ p n c row, v = .slice p n c ∧ Vs w p n c row ∧ ∀ x ∈ row, x.fit := by
  obtain ⟨p, n, c, l, e, h1, h2, _⟩ := arg_ls (e := 26) (enc := Val.cs) (Q := Val.fit) (by kernel_rfl) (by decide +kernel) (fun x hx => arg_value hx) (fun _ => by kernel_rfl) h
  exact ⟨p, n, c, l, e, h1, h2⟩
theorem arg_expr {w : World} {cs : List Value} (h : Arg Tryd.prog w 29 cs) : ∃ x, ExAt w x cs ∧ ∀ y ∈ nodesT x, fitI y.v.n := by
  obtain ⟨f, h⟩ := h.told
  exact arg_ex (ti := 3) (ts := 9) (tv := 26) (tk := 27) (by kernel_rfl) (by kernel_rfl) (by kernel_rfl) (by kernel_rfl) (by kernel_rfl) (by kernel_rfl) (by kernel_rfl) (by kernel_rfl) (by kernel_rfl) (fun cs h => arg_value h) f cs h

theorem types_walk (W : World) (hT : Tab W ∧ Tab2 W) (v0 : Value) (cs1 : Array Value) (a0 : Arg Tryd.prog W 22 [v0]) (a1 : Arg Tryd.prog W 29 cs1.toList) :
    Calls Tryd.prog 5 #[v0, .agg cs1] W fun e w' => e = .returned (.bool true) ∧ Ext W w' := by
  obtain ⟨p, n, c, cols, rfl, hc, hs⟩ := arg_cols a0
  obtain ⟨x, hx, _⟩ := arg_expr a1
  exact lawTypes_ok x hT.1 hT.2 hc (fun y hy => by have := hs y hy; omega) hx
theorem evals_walk (W : World) (hT : Tab W ∧ Tab2 W) (v0 v1 : Value) (cs2 : Array Value) (a0 : Arg Tryd.prog W 22 [v0]) (a1 : Arg Tryd.prog W 24 [v1]) (a2 : Arg Tryd.prog W 29 cs2.toList) :
    Calls Tryd.prog 6 #[v0, v1, .agg cs2] W fun e w' => e = .returned (.bool true) ∧ Ext W w' := by
  obtain ⟨p, n, c, cols, rfl, hc, hs⟩ := arg_cols a0
  obtain ⟨rp, rn, rc, row, rfl, hr, hf⟩ := arg_row a1
  obtain ⟨x, hx, hxf⟩ := arg_expr a2
  exact lawEvals_ok x hT.1 hT.2 hc (fun y hy => by have := hs y hy; omega) hr hx (fun u hu => (hf u hu).2) hxf
end Go.Proofs.YtdephmdfdgclpaaDoor
