/- The verification conditions of the functions, evaluated: printed by program. -/
import Derived.Test.YtdclhgcgpcddlaaBase
namespace Go.Proofs.Ytdclhgcgpcddlaa
open Go Go.Vc

set_option maxRecDepth 100000 in
def law6Words_T (form : Int) (l_p : Option Addr) (l_n : Nat) (l_c : Nat) (w : World) (R : Ending → World → Prop) : Prop :=
  Calls Try.prog 47 #[] w fun (e1 : Ending) (w2 : World) ↦
 ∃ (b3 : Bool),
 e1 = Ending.returned (Value.bool b3) ∧
 Calls Try.prog 48 #[Value.int IntKind.i64 form, Value.slice l_p l_n l_c] w2 fun (e4 : Ending) (w5 : World) ↦
 ∃ (p6 : Option Addr),
 ∃ (n7 : Nat),
 ∃ (c8 : Nat),
 ∃ (n9 : Int),
 e4 = Ending.returned (Value.tuple #[Value.slice p6 n7 c8, Value.int IntKind.i64 n9]) ∧
 Calls Try.prog 49 #[Value.int IntKind.i64 form, Value.slice l_p l_n l_c] w5 fun (e10 : Ending) (w11 : World) ↦
 ∃ (p12 : Option Addr),
 ∃ (n13 : Nat),
 ∃ (c14 : Nat),
 ∃ (n15 : Int),
 e10 = Ending.returned (Value.tuple #[Value.slice p12 n13 c14, Value.int IntKind.i64 n15]) ∧
 Calls Try.prog 50 #[Value.slice l_p l_n l_c] w11 fun (e16 : Ending) (w17 : World) ↦
 ∃ (n18 : Int),
 ∃ (n19 : Int),
 e16 = Ending.returned (Value.tuple #[Value.int IntKind.i64 n18, Value.int IntKind.i64 n19]) ∧
 Calls Try.prog 51 #[Value.slice l_p l_n l_c] w17 fun (e20 : Ending) (w21 : World) ↦
 ∃ (n22 : Int),
 ∃ (n23 : Int),
 e20 = Ending.returned (Value.tuple #[Value.int IntKind.i64 n22, Value.int IntKind.i64 n23]) ∧
 (b3 = true →
 ∃ (l25 : List UInt8),
 BytesAt w21 p6 n7 l25 ∧
 ∃ (l26 : List UInt8),
 BytesAt w21 p12 n13 l26 ∧
 R (Ending.returned (Value.bool (sEq (ByteArray.mk (Array.mk l25)) (ByteArray.mk (Array.mk l26)) && decide (n9 = n15) && decide (n18 = n22) && decide (n19 = n23)))) w21) ∧
 (b3 = false → R (Ending.returned (Value.bool false)) w21)

set_option maxRecDepth 100000 in
theorem law6Words_eq (form : Int) (l_p : Option Addr) (l_n : Nat) (l_c : Nat) (w : World) (R : Ending → World → Prop) : law6Words_T form l_p l_n l_c w R = vcFn Try.prog [] [] Try.f16 [Value.int IntKind.i64 form, Value.slice l_p l_n l_c] w R := by kernel_rfl

set_option maxRecDepth 100000 in
theorem law6Words_vc (form : Int) (l_p : Option Addr) (l_n : Nat) (l_c : Nat) (w : World) (R : Ending → World → Prop) (h : law6Words_T form l_p l_n l_c w R) : Calls Try.prog 16 #[Value.int IntKind.i64 form, Value.slice l_p l_n l_c] w R :=
  calls_of_vc (args := [Value.int IntKind.i64 form, Value.slice l_p l_n l_c]) [] [] Try.mixed Try.func16 (cast (law6Words_eq _ _ _ _ w R) h)

set_option maxRecDepth 100000 in
def law6Best_T (l_p : Option Addr) (l_n : Nat) (l_c : Nat) (w : World) (R : Ending → World → Prop) : Prop :=
  Calls Try.prog 47 #[] w fun (e1 : Ending) (w2 : World) ↦
 ∃ (b3 : Bool),
 e1 = Ending.returned (Value.bool b3) ∧
 Calls Try.prog 50 #[Value.slice l_p l_n l_c] w2 fun (e4 : Ending) (w5 : World) ↦
 ∃ (n6 : Int),
 ∃ (n7 : Int),
 e4 = Ending.returned (Value.tuple #[Value.int IntKind.i64 n6, Value.int IntKind.i64 n7]) ∧
 (n7 ≠ 0 → R (Ending.returned (Value.bool (b3 && decide (4096 < (↑l_n : Int))))) w5) ∧
 (n7 = 0 →
 Calls Try.prog 48 #[Value.int IntKind.i64 n6, Value.slice l_p l_n l_c] w5 fun (e10 : Ending) (w11 : World) ↦
 ∃ (p12 : Option Addr),
 ∃ (n13 : Nat),
 ∃ (c14 : Nat),
 ∃ (n15 : Int),
 e10 = Ending.returned (Value.tuple #[Value.slice p12 n13 c14, Value.int IntKind.i64 n15]) ∧
 (n15 ≠ 0 → R (Ending.returned (Value.bool false)) w11) ∧
 (n15 = 0 →
 ∃ (I18 : Int → World → Prop),
 ∃ (M19 : Int → World → Nat),
 I18 0 w11 ∧
 ∀ (n20 : Int) (w'21 : World),
 I18 n20 w'21 →
 (n20 < 4 →
 Calls Try.prog 48 #[Value.int IntKind.i64 n20, Value.slice l_p l_n l_c] w'21 fun (e24 : Ending) (w25 : World) ↦
 ∃ (p26 : Option Addr),
 ∃ (n27 : Nat),
 ∃ (c28 : Nat),
 ∃ (n29 : Int),
 e24 = Ending.returned (Value.tuple #[Value.slice p26 n27 c28, Value.int IntKind.i64 n29]) ∧
 (n29 ≠ 0 ∨ (↑n27 : Int) < (↑n13 : Int) → R (Ending.returned (Value.bool false)) w25) ∧
 (n29 = 0 ∧ (↑n13 : Int) ≤ (↑n27 : Int) →
 ((↑n27 : Int) = (↑n13 : Int) ∧ n20 < n6 → R (Ending.returned (Value.bool false)) w25) ∧
 ((↑n27 : Int) ≠ (↑n13 : Int) ∨ n6 ≤ n20 → I18 (IntKind.i64.wrap (n20 + 1)) w25 ∧ M19 (IntKind.i64.wrap (n20 + 1)) w25 < M19 n20 w'21))) ∧
 (4 ≤ n20 → R (Ending.returned (Value.bool b3)) w'21)))

set_option maxRecDepth 100000 in
theorem law6Best_eq (l_p : Option Addr) (l_n : Nat) (l_c : Nat) (w : World) (R : Ending → World → Prop) : law6Best_T l_p l_n l_c w R = vcFn Try.prog [] [] Try.f17 [Value.slice l_p l_n l_c] w R := by kernel_rfl

set_option maxRecDepth 100000 in
theorem law6Best_vc (l_p : Option Addr) (l_n : Nat) (l_c : Nat) (w : World) (R : Ending → World → Prop) (h : law6Best_T l_p l_n l_c w R) : Calls Try.prog 17 #[Value.slice l_p l_n l_c] w R :=
  calls_of_vc (args := [Value.slice l_p l_n l_c]) [] [] Try.mixed Try.func17 (cast (law6Best_eq _ _ _ w R) h)

set_option maxRecDepth 100000 in
def law6Small_T (x : Int) (n : Int) (w : World) (R : Ending → World → Prop) : Prop :=
  Calls Try.prog 47 #[] w fun (e1 : Ending) (w2 : World) ↦
 ∃ (b3 : Bool),
 e1 = Ending.returned (Value.bool b3) ∧
 (n < 0 ∨ 4096 < n → R (Ending.returned (Value.bool b3)) w2) ∧
 (0 ≤ n ∧ n ≤ 4096 →
 0 ≤ n ∧
 n ≤ n ∧
 8 * n ≤ 281474976710656 ∧
 n ≤ 9223372036854775807 ∧
 ∀ (b6 : Nat) (w'7 : World),
 New w2 (Obj.cells (madeCells #[Value.int IntKind.i64 0] n.toNat) 2) b6 w'7 →
 ∃ (I9 : Int → World → Prop),
 ∃ (M10 : Int → World → Nat),
 I9 0 w'7 ∧
 ∀ (n11 : Int) (w'12 : World),
 I9 n11 w'12 →
 (n11 < n →
 ∃ (b15 : Nat),
 ∃ (o16 : Nat),
 some (Addr.mk b6 0 none) = some (Addr.mk b15 o16 none) ∧
 0 ≤ n11 ∧
 n11 < (↑n.toNat : Int) ∧
 (∃ (u17 : Value), w'12.cell? (Addr.mk b15 (o16 + n11.toNat) none) = some u17) ∧
 w'12.frozen? (Addr.mk b15 (o16 + n11.toNat) none) = false ∧
 ∀ (w'18 : World),
 Put w'12 b15 (o16 + n11.toNat) [Value.int IntKind.i64 x] w'18 → I9 (IntKind.i64.wrap (n11 + 1)) w'18 ∧ M10 (IntKind.i64.wrap (n11 + 1)) w'18 < M10 n11 w'12) ∧
 (n ≤ n11 →
 Calls Try.prog 50 #[Value.slice (some (Addr.mk b6 0 none)) n.toNat n.toNat] w'12 fun (e21 : Ending) (w22 : World) ↦
 ∃ (n23 : Int),
 ∃ (n24 : Int),
 e21 = Ending.returned (Value.tuple #[Value.int IntKind.i64 n23, Value.int IntKind.i64 n24]) ∧
 Calls Try.prog 48 #[Value.int IntKind.i64 n23, Value.slice (some (Addr.mk b6 0 none)) n.toNat n.toNat] w22 fun (e25 : Ending) (w26 : World) ↦
 ∃ (p27 : Option Addr),
 ∃ (n28 : Nat),
 ∃ (c29 : Nat),
 ∃ (n30 : Int),
 e25 = Ending.returned (Value.tuple #[Value.slice p27 n28 c29, Value.int IntKind.i64 n30]) ∧
 R (Ending.returned (Value.bool (b3 && decide (n24 = 0) && decide (n30 = 0) && decide ((↑n28 : Int) ≤ 13)))) w26))

set_option maxRecDepth 100000 in
theorem law6Small_eq (x : Int) (n : Int) (w : World) (R : Ending → World → Prop) : law6Small_T x n w R = vcFn Try.prog [] [] Try.f18 [Value.int IntKind.i64 x, Value.int IntKind.i64 n] w R := by kernel_rfl

set_option maxRecDepth 100000 in
theorem law6Small_vc (x : Int) (n : Int) (w : World) (R : Ending → World → Prop) (h : law6Small_T x n w R) : Calls Try.prog 18 #[Value.int IntKind.i64 x, Value.int IntKind.i64 n] w R :=
  calls_of_vc (args := [Value.int IntKind.i64 x, Value.int IntKind.i64 n]) [] [] Try.mixed Try.func18 (cast (law6Small_eq _ _ w R) h)

set_option maxRecDepth 100000 in
def law6Near_T (low : Int) (b_p : Option Addr) (b_n : Nat) (b_c : Nat) (w : World) (R : Ending → World → Prop) : Prop :=
  Calls Try.prog 47 #[] w fun (e1 : Ending) (w2 : World) ↦
 ∃ (b3 : Bool),
 e1 = Ending.returned (Value.bool b3) ∧
 0 ≤ mmI false (↑b_n : Int) 1000 ∧
 mmI false (↑b_n : Int) 1000 ≤ (↑b_c : Int) ∧
 (9223372036854775508 < low → R (Ending.returned (Value.bool b3)) w2) ∧
 (low ≤ 9223372036854775508 →
 ∃ (I6 : Option Addr → Nat → Nat → Int → World → Prop),
 ∃ (M7 : Option Addr → Nat → Nat → Int → World → Nat),
 I6 none 0 0 0 w2 ∧
 ∀ (p8 : Option Addr) (n9 c10 : Nat) (n11 : Int) (w'12 : World),
 I6 p8 n9 c10 n11 w'12 →
 (n11 < (↑(mmI false (↑b_n : Int) 1000).toNat : Int) →
 ∃ (b15 : Nat),
 ∃ (o16 : Nat),
 b_p = some (Addr.mk b15 o16 none) ∧
 0 ≤ n11 ∧
 n11 < (↑(mmI false (↑b_n : Int) 1000).toNat : Int) ∧
 ∃ (n17 : Int),
 w'12.cell? (Addr.mk b15 (o16 + n11.toNat) none) = some (Value.int IntKind.u8 n17) ∧
 ∀ (b18 : Nat) (w'19 : World),
 New w'12 (Obj.cells #[Value.int IntKind.i64 (IntKind.i64.wrap (low + IntKind.i64.wrap n17))] 2) b18 w'19 →
 ∃ (p21 : Option Addr),
 ∃ (n22 : Nat),
 ∃ (c23 : Nat),
 ∃ (w'24 : World),
 Sem.run Try.prog (Builtin.append_ #[63, 63] 63 #[Value.slice p8 n9 c10, Value.slice (some (Addr.mk b18 0 none)) 1 1]) w'19 = Result.ok (Value.slice p21 n22 c23) w'24 ∧
 I6 p21 n22 c23 (IntKind.i64.wrap (n11 + 1)) w'24 ∧ M7 p21 n22 c23 (IntKind.i64.wrap (n11 + 1)) w'24 < M7 p8 n9 c10 n11 w'12) ∧
 ((↑(mmI false (↑b_n : Int) 1000).toNat : Int) ≤ n11 →
 Calls Try.prog 50 #[Value.slice p8 n9 c10] w'12 fun (e26 : Ending) (w27 : World) ↦
 ∃ (n28 : Int),
 ∃ (n29 : Int),
 e26 = Ending.returned (Value.tuple #[Value.int IntKind.i64 n28, Value.int IntKind.i64 n29]) ∧
 Calls Try.prog 48 #[Value.int IntKind.i64 n28, Value.slice p8 n9 c10] w27 fun (e30 : Ending) (w31 : World) ↦
 ∃ (p32 : Option Addr),
 ∃ (n33 : Nat),
 ∃ (c34 : Nat),
 ∃ (n35 : Int),
 e30 = Ending.returned (Value.tuple #[Value.slice p32 n33 c34, Value.int IntKind.i64 n35]) ∧
 R
 (Ending.returned
 (Value.bool (b3 && decide (n29 = 0) && decide (n35 = 0) && decide ((↑n33 : Int) ≤ IntKind.i64.wrap ((↑(mmI false (↑b_n : Int) 1000).toNat : Int) + 12)))))
 w31))

set_option maxRecDepth 100000 in
theorem law6Near_eq (low : Int) (b_p : Option Addr) (b_n : Nat) (b_c : Nat) (w : World) (R : Ending → World → Prop) : law6Near_T low b_p b_n b_c w R = vcFn Try.prog [] [] Try.f19 [Value.int IntKind.i64 low, Value.slice b_p b_n b_c] w R := by kernel_rfl

set_option maxRecDepth 100000 in
theorem law6Near_vc (low : Int) (b_p : Option Addr) (b_n : Nat) (b_c : Nat) (w : World) (R : Ending → World → Prop) (h : law6Near_T low b_p b_n b_c w R) : Calls Try.prog 19 #[Value.int IntKind.i64 low, Value.slice b_p b_n b_c] w R :=
  calls_of_vc (args := [Value.int IntKind.i64 low, Value.slice b_p b_n b_c]) [] [] Try.mixed Try.func19 (cast (law6Near_eq _ _ _ _ w R) h)

set_option maxRecDepth 100000 in
def law6Reads_T (b_p : Option Addr) (b_n : Nat) (b_c : Nat) (n : Int) (w : World) (R : Ending → World → Prop) : Prop :=
  Calls Try.prog 47 #[] w fun (e1 : Ending) (w2 : World) ↦
 ∃ (b3 : Bool),
 e1 = Ending.returned (Value.bool b3) ∧
 Calls Try.prog 52 #[Value.slice b_p b_n b_c, Value.int IntKind.i64 n] w2 fun (e4 : Ending) (w5 : World) ↦
 ∃ (p6 : Option Addr),
 ∃ (n7 : Nat),
 ∃ (c8 : Nat),
 ∃ (n9 : Int),
 e4 = Ending.returned (Value.tuple #[Value.slice p6 n7 c8, Value.int IntKind.i64 n9]) ∧
 Calls Try.prog 53 #[Value.slice b_p b_n b_c, Value.int IntKind.i64 n] w5 fun (e10 : Ending) (w11 : World) ↦
 ∃ (p12 : Option Addr),
 ∃ (n13 : Nat),
 ∃ (c14 : Nat),
 ∃ (n15 : Int),
 e10 = Ending.returned (Value.tuple #[Value.slice p12 n13 c14, Value.int IntKind.i64 n15]) ∧
 (b3 = true →
 Calls Try.prog 54 #[Value.slice p6 n7 c8, Value.slice p12 n13 c14] w11 fun (e17 : Ending) (w18 : World) ↦
 ∃ (b19 : Bool), e17 = Ending.returned (Value.bool b19) ∧ R (Ending.returned (Value.bool (b19 && decide (n9 = n15)))) w18) ∧
 (b3 = false → R (Ending.returned (Value.bool false)) w11)

set_option maxRecDepth 100000 in
theorem law6Reads_eq (b_p : Option Addr) (b_n : Nat) (b_c : Nat) (n : Int) (w : World) (R : Ending → World → Prop) : law6Reads_T b_p b_n b_c n w R = vcFn Try.prog [] [] Try.f20 [Value.slice b_p b_n b_c, Value.int IntKind.i64 n] w R := by kernel_rfl

set_option maxRecDepth 100000 in
theorem law6Reads_vc (b_p : Option Addr) (b_n : Nat) (b_c : Nat) (n : Int) (w : World) (R : Ending → World → Prop) (h : law6Reads_T b_p b_n b_c n w R) : Calls Try.prog 20 #[Value.slice b_p b_n b_c, Value.int IntKind.i64 n] w R :=
  calls_of_vc (args := [Value.slice b_p b_n b_c, Value.int IntKind.i64 n]) [] [] Try.mixed Try.func20 (cast (law6Reads_eq _ _ _ _ w R) h)

set_option maxRecDepth 100000 in
def law6Back_T (l_p : Option Addr) (l_n : Nat) (l_c : Nat) (b_p : Option Addr) (b_n : Nat) (b_c : Nat) (n : Int) (w : World) (R : Ending → World → Prop) : Prop :=
  Calls Try.prog 47 #[] w fun (e1 : Ending) (w2 : World) ↦
 ∃ (b3 : Bool),
 e1 = Ending.returned (Value.bool b3) ∧
 ∃ (I4 : Int → World → Prop),
 ∃ (M5 : Int → World → Nat),
 I4 0 w2 ∧
 ∀ (n6 : Int) (w'7 : World),
 I4 n6 w'7 →
 (n6 < 4 →
 Calls Try.prog 48 #[Value.int IntKind.i64 n6, Value.slice l_p l_n l_c] w'7 fun (e10 : Ending) (w11 : World) ↦
 ∃ (p12 : Option Addr),
 ∃ (n13 : Nat),
 ∃ (c14 : Nat),
 ∃ (n15 : Int),
 e10 = Ending.returned (Value.tuple #[Value.slice p12 n13 c14, Value.int IntKind.i64 n15]) ∧
 (n15 ≠ 0 → R (Ending.returned (Value.bool (b3 && decide (4096 < (↑l_n : Int))))) w11) ∧
 (n15 = 0 →
 Calls Try.prog 52 #[Value.slice p12 n13 c14, Value.int IntKind.i64 (↑l_n : Int)] w11 fun (e18 : Ending) (w19 : World) ↦
 ∃ (p20 : Option Addr),
 ∃ (n21 : Nat),
 ∃ (c22 : Nat),
 ∃ (n23 : Int),
 e18 = Ending.returned (Value.tuple #[Value.slice p20 n21 c22, Value.int IntKind.i64 n23]) ∧
 (n23 ≠ 0 → R (Ending.returned (Value.bool false)) w19) ∧
 (n23 = 0 →
 Calls Try.prog 54 #[Value.slice l_p l_n l_c, Value.slice p20 n21 c22] w19 fun (e26 : Ending) (w27 : World) ↦
 ∃ (b28 : Bool),
 e26 = Ending.returned (Value.bool b28) ∧
 (b28 = false → R (Ending.returned (Value.bool false)) w27) ∧ (b28 = true → I4 (IntKind.i64.wrap (n6 + 1)) w27 ∧ M5 (IntKind.i64.wrap (n6 + 1)) w27 < M5 n6 w'7)))) ∧
 (4 ≤ n6 →
 Calls Try.prog 52 #[Value.slice b_p b_n b_c, Value.int IntKind.i64 n] w'7 fun (e32 : Ending) (w33 : World) ↦
 ∃ (p34 : Option Addr),
 ∃ (n35 : Nat),
 ∃ (c36 : Nat),
 ∃ (n37 : Int),
 e32 = Ending.returned (Value.tuple #[Value.slice p34 n35 c36, Value.int IntKind.i64 n37]) ∧
 (n37 ≠ 0 → R (Ending.returned (Value.bool (b3 && decide ((↑n35 : Int) = 0)))) w33) ∧
 (n37 = 0 →
 ∃ (b40 : Nat),
 ∃ (o41 : Nat),
 b_p = some (Addr.mk b40 o41 none) ∧
 (0 : Int) ≤ 0 ∧
 0 < (↑b_n : Int) ∧
 ∃ (n42 : Int),
 w33.cell? (Addr.mk b40 (o41 + 0) none) = some (Value.int IntKind.u8 n42) ∧
 Calls Try.prog 48 #[Value.int IntKind.i64 (IntKind.i64.wrap n42), Value.slice p34 n35 c36] w33 fun (e43 : Ending) (w44 : World) ↦
 ∃ (p45 : Option Addr),
 ∃ (n46 : Nat),
 ∃ (c47 : Nat),
 ∃ (n48 : Int),
 e43 = Ending.returned (Value.tuple #[Value.slice p45 n46 c47, Value.int IntKind.i64 n48]) ∧
 ((b3 = true ∧ (↑n35 : Int) = n) ∧ n48 = 0 →
 ∃ (l50 : List UInt8),
 BytesAt w44 p45 n46 l50 ∧
 ∃ (l51 : List UInt8), BytesAt w44 b_p b_n l51 ∧ R (Ending.returned (Value.bool (sEq (ByteArray.mk (Array.mk l50)) (ByteArray.mk (Array.mk l51))))) w44) ∧
 ((b3 = false ∨ (↑n35 : Int) ≠ n) ∨ n48 ≠ 0 → R (Ending.returned (Value.bool false)) w44)))

set_option maxRecDepth 100000 in
theorem law6Back_eq (l_p : Option Addr) (l_n : Nat) (l_c : Nat) (b_p : Option Addr) (b_n : Nat) (b_c : Nat) (n : Int) (w : World) (R : Ending → World → Prop) : law6Back_T l_p l_n l_c b_p b_n b_c n w R = vcFn Try.prog [] [] Try.f21 [Value.slice l_p l_n l_c, Value.slice b_p b_n b_c, Value.int IntKind.i64 n] w R := by kernel_rfl

set_option maxRecDepth 100000 in
theorem law6Back_vc (l_p : Option Addr) (l_n : Nat) (l_c : Nat) (b_p : Option Addr) (b_n : Nat) (b_c : Nat) (n : Int) (w : World) (R : Ending → World → Prop) (h : law6Back_T l_p l_n l_c b_p b_n b_c n w R) : Calls Try.prog 21 #[Value.slice l_p l_n l_c, Value.slice b_p b_n b_c, Value.int IntKind.i64 n] w R :=
  calls_of_vc (args := [Value.slice l_p l_n l_c, Value.slice b_p b_n b_c, Value.int IntKind.i64 n]) [] [] Try.mixed Try.func21 (cast (law6Back_eq _ _ _ _ _ _ _ w R) h)


end Go.Proofs.Ytdclhgcgpcddlaa
